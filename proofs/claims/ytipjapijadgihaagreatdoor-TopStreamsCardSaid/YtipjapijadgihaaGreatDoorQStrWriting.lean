/-
  New, ready, writing, walked.
-/
import Derived.WalkSpells
import Derived.Test.YtipjapijadgihaaGreatDoorQStrRow
set_option linter.unusedVariables false

namespace Go.Str
open Go.Own Go.RowKit Go.Proofs

theorem _root_.Go.Own.Turn.trans' {w w0 w1 : World} {R : Nat} (h : Turn (fun _ => False) w0 w) (k : Turn (fun j => j = R) w w1) (hR : w0.heap.size ≤ R) : Turn (fun _ => False) w0 w1 :=
  ⟨k.os.trans h.os, k.tape.trans h.tape, k.output.trans h.output, Nat.le_trans h.size k.size, fun j hj hs => by
    rw [k.block j (Nat.lt_of_lt_of_le hj h.size) (by omega)]
    exact h.block j hj hs⟩

theorem run_assert_no {P : Program} (w : World) {t x a e : TypeId} (v : Value) (hu : P.underlying a = some (.pointer e)) (hz : (zeroValue a).run P w = .ok (.pointer none) w) (hne : t ≠ a) :
    (Instr.typeAssert (.iface t v) x a true).run P w = .ok (.tuple #[.pointer none, .bool false]) w := by
  simp [Instr.typeAssert, run_underlying hu, hne, hz]
theorem run_assert_yes {P : Program} (w : World) {x a e : TypeId} (v : Value) (hu : P.underlying a = some (.pointer e)) :
    (Instr.typeAssert (.iface a v) x a true).run P w = .ok (.tuple #[v, .bool true]) w := by
  simp [Instr.typeAssert, run_underlying hu]

def SS.new : SS := ⟨fun _ => none, fun _ => none, fun _ => none, fun _ => none, 0⟩

section
variable {w : World}

theorem s_cells {g : Gh} {last : Nat} (h : w.heap[g.s]? = some (.cells #[.map (some g.fm), .map (some g.pm), .map (some g.am), .map (some g.hm), .int .i64 last] 80 (0, 0))) :
    w.cell? ⟨g.s, 0, none⟩ = some (.map (some g.fm)) ∧ w.cell? ⟨g.s, 1, none⟩ = some (.map (some g.pm)) ∧ w.cell? ⟨g.s, 2, none⟩ = some (.map (some g.am)) ∧ w.cell? ⟨g.s, 3, none⟩ = some (.map (some g.hm)) ∧ w.cell? ⟨g.s, 4, none⟩ = some (.int .i64 last) ∧ ∀ i, w.frozen? ⟨g.s, i, none⟩ = false :=
  ⟨cell_at h rfl, cell_at h rfl, cell_at h rfl, cell_at h rfl, cell_at h rfl, fun _ => frozen_at h⟩

/-- ready on streams that have their maps. -/
theorem ready_calls {g : Gh} {S : SS} (h : Rep g S w) {sb : Nat} (hs : g.s = sb) : Calls Tryz.prog 31 #[pt sb] w fun e w' => e = .returned (.tuple #[]) ∧ w' = w := by
  subst hs
  obtain ⟨c0, -, -, -, -, -⟩ := s_cells h.base.sb
  have q := run_eql_map_nil w 75 _ _ (some g.fm) Tryz.underlying75
  clear h
  go_enter Tryz.func31, Tryz.ntmps31
  go_wp2
  go_end0
  exact ⟨rfl, rfl⟩

def zCells : Array Value := #[.map none, .map none, .map none, .map none, .int .i64 0]

set_option maxRecDepth 10000 in
set_option maxHeartbeats 2000000 in
theorem ready_new {sb : Nat} (h : w.heap[sb]? = some (.cells zCells 80 (0, 0))) (hE : Env w) (hs0 : 0 < sb) :
    Calls Tryz.prog 31 #[pt sb] w fun e w' => e = .returned (.tuple #[]) ∧ ∃ g, g.s = sb ∧ Rep g SS.new w' ∧ Turn (fun k => k = sb) w w' ∧ ∀ k, k < w.heap.size → k ≠ sb → (g.ρ k).1 = 0 := by
  have hlt := heap_lt h
  obtain ⟨w4, hw4⟩ : ∃ w4, (((w.alloc (.map #[] 0)).alloc (.map #[] 0)).alloc (.map #[] 0)).alloc (.map #[] 0) = w4 := ⟨_, rfl⟩
  obtain ⟨n, hn⟩ : ∃ n, w.heap.size = n := ⟨_, rfl⟩
  have m0 : w4.heap[n]? = some (.map #[] 0) := by
    rw [← hw4, heap_alloc_lt _ _ _ (by simp; omega), heap_alloc_lt _ _ _ (by simp; omega), heap_alloc_lt _ _ _ (by simp; omega), ← hn]; exact heap_alloc_new w _
  have m1 : w4.heap[n + 1]? = some (.map #[] 0) := by
    rw [← hw4, heap_alloc_lt _ _ _ (by simp; omega), heap_alloc_lt _ _ _ (by simp; omega), ← hn]
    have := heap_alloc_new (w.alloc (.map #[] 0)) (.map #[] 0)
    simpa using this
  have m2 : w4.heap[n + 2]? = some (.map #[] 0) := by
    rw [← hw4, heap_alloc_lt _ _ _ (by simp; omega), ← hn]
    have := heap_alloc_new ((w.alloc (.map #[] 0)).alloc (.map #[] 0)) (.map #[] 0)
    simpa using this
  have m3 : w4.heap[n + 3]? = some (.map #[] 0) := by
    rw [← hw4, ← hn]
    have := heap_alloc_new (((w.alloc (.map #[] 0)).alloc (.map #[] 0)).alloc (.map #[] 0)) (.map #[] 0)
    simpa using this
  have T4 : Turn (fun k => k = sb) w w4 := by
    rw [← hw4]; exact ((((Turn.refl _ w).alloc _).alloc _).alloc _).alloc _
  have b4 : w4.heap[sb]? = some (.cells zCells 80 (0, 0)) := by
    rw [← hw4, heap_alloc_lt _ _ _ (by simp; omega), heap_alloc_lt _ _ _ (by simp; omega), heap_alloc_lt _ _ _ (by simp; omega), heap_alloc_lt _ _ _ hlt]; exact h
  have hz4 : w4.heap.size = n + 4 := by rw [← hw4]; simp [hn]
  have HM := Lib.hid (And.intro b4 (And.intro m0 (And.intro m1 (And.intro m2 (And.intro m3 (And.intro T4 (And.intro hz4 (And.intro hlt (And.intro hn hE)))))))))
  have k0 : w.cell? ⟨sb, 0, none⟩ = some (.map none) := cell_at h rfl
  have a0 : w4.cell? ⟨sb, 0, none⟩ = some (.map none) := cell_at b4 rfl
  have a1 : w4.cell? ⟨sb, 1, none⟩ = some (.map none) := cell_at b4 rfl
  have a2 : w4.cell? ⟨sb, 2, none⟩ = some (.map none) := cell_at b4 rfl
  have a3 : w4.cell? ⟨sb, 3, none⟩ = some (.map none) := cell_at b4 rfl
  have af : ∀ i, w4.frozen? ⟨sb, i, none⟩ = false := fun i => frozen_at b4
  have q := run_eql_map_nil w 75 _ _ none Tryz.underlying75
  have hmm := @run_makeMap Tryz.prog
  clear h m0 m1 m2 m3 T4 b4 hz4 hlt hE
  go_enter Tryz.func31, Tryz.ntmps31
  go_wp2_with fail
  obtain ⟨w5, hw5⟩ : ∃ w5, (((w4.setCell ⟨sb, 0, none⟩ (.map (some n))).setCell ⟨sb, 1, none⟩ (.map (some (n + 1)))).setCell ⟨sb, 2, none⟩ (.map (some (n + 1 + 1)))).setCell ⟨sb, 3, none⟩ (.map (some (n + 1 + 1 + 1))) = w5 := ⟨_, rfl⟩
  rw [hw5]
  have T5 : Turn (fun k => k = sb) w w5 := by
    rw [← hw5]
    exact ((((HM.out.2.2.2.2.2.1.setCell (fun _ => rfl) _).setCell (fun _ => rfl) _).setCell (fun _ => rfl) _).setCell (fun _ => rfl) _)
  have hb : ∀ k, k ≠ sb → w5.heap[k]? = w4.heap[k]? := fun k hk => by
    rw [← hw5, heap_setCell_ne _ hk, heap_setCell_ne _ hk, heap_setCell_ne _ hk, heap_setCell_ne _ hk]
  have hs5 : w5.heap[sb]? = some (.cells #[.map (some n), .map (some (n + 1)), .map (some (n + 2)), .map (some (n + 3)), .int .i64 0] 80 (0, 0)) := by
    rw [← hw5]
    exact heap_setCell_self _ (heap_setCell_self _ (heap_setCell_self _ (heap_setCell_self _ HM.out.1)))
  have hz5 : w5.heap.size = n + 4 := by rw [← hw5]; simpa using HM.out.2.2.2.2.2.2.1
  go_end0
  have hlt := HM.out.2.2.2.2.2.2.2.1
  have hwn := HM.out.2.2.2.2.2.2.2.2.1
  refine ⟨rfl, ⟨sb, n, n + 1, n + 2, n + 3, fun _ => 0, fun _ => 0, fun _ => .slice none 0 0, fun k => if k = sb then (1, 0) else if k = n then (1, 1) else if k = n + 1 then (1, 2) else if k = n + 2 then (1, 3) else if k = n + 3 then (1, 4) else (0, 0)⟩, rfl, ?_, T5, fun k hk hne => ?_⟩
  · have hne : ∀ i, n + i ≠ sb := fun i => by omega
    have hn0 : n ≠ sb := by omega
    refine ⟨⟨hs5, if_pos rfl, ?_, ?_, ?_, ?_, fun k hk => ?_, HM.out.2.2.2.2.2.2.2.2.2.turn T5 (by omega), ?_⟩, ⟨?_, fun p b h => by cases h⟩, ⟨?_, fun p x h => (by cases h), fun p q x y h => by cases h⟩, ?_, ⟨?_, fun h x hx => by cases hx⟩, fun h name r hx => by cases hx⟩
    · dsimp only; rw [if_neg hn0, if_pos rfl]
    · dsimp only; rw [if_neg (hne 1), if_neg (by omega), if_pos rfl]
    · dsimp only; rw [if_neg (hne 2), if_neg (by omega), if_neg (by omega), if_pos rfl]
    · dsimp only; rw [if_neg (hne 3), if_neg (by omega), if_neg (by omega), if_neg (by omega), if_pos rfl]
    · dsimp only
      rw [if_neg (by omega), if_neg (by omega), if_neg (by omega), if_neg (by omega), if_neg (by omega)]
    · dsimp only
      rw [if_neg (by omega), if_neg (by omega), if_neg (by omega), if_neg (by omega), if_neg (by omega)]
    · exact MapST.of_block ((hb _ hn0).trans HM.out.2.1)
    · exact MapST.of_block ((hb _ (hne 1)).trans HM.out.2.2.1)
    · exact MapST.of_block ((hb _ (hne 2)).trans HM.out.2.2.2.1)
    · exact MapS.of_block ((hb _ (hne 3)).trans HM.out.2.2.2.2.1)
  · dsimp only
    rw [if_neg hne, if_neg (by omega), if_neg (by omega), if_neg (by omega), if_neg (by omega)]

def NewPost (w : World) (e : Ending) (w' : World) : Prop :=
  ∃ g, e = .returned (pt g.s) ∧ g.s = w.heap.size ∧ Rep g SS.new w' ∧ Turn (fun _ => False) w w' ∧ ∀ k, k < w.heap.size → (g.ρ k).1 = 0

set_option maxRecDepth 10000 in
theorem new_calls (hE : Env w) : Calls Tryz.prog 8 #[] w (NewPost w) := by
  have hb := heap_alloc_new w (.cells zCells 80)
  have h0 : 0 < w.heap.size := by
    obtain ⟨m, hm⟩ := hE
    exact World.block_lt_of_cell? w _ hm
  have HR := Lib.hid (ready_new hb (hE.turn ((Turn.refl (fun _ => False) w).alloc _) (fun e => e)) h0)
  clear hb hE h0
  go_enter Tryz.func8, Tryz.ntmps8
  go_wp2_with fail
  refine HR.out.mono ?_
  rintro e w1 ⟨rfl, g, h1, h2, h3, h4⟩
  have HI := Lib.hid (And.intro h1 (And.intro h2 (And.intro h3 h4)))
  clear h1 h2 h3 h4
  go_wp2_with fail
  go_ret
  refine ⟨g, by rw [HI.out.1]; rfl, HI.out.1, HI.out.2.1, ?_, fun k hk => HI.out.2.2.2 k (by simp; omega) (by omega)⟩
  have t := HI.out.2.2.1
  refine ⟨t.os, t.tape, t.output, by have := t.size; simp at this; omega, fun k hk _ => ?_⟩
  rw [t.block k (by simp; omega) (by omega)]
  exact heap_alloc_lt w _ k hk

/-- No file of this path is open for writing. -/
def NoWr (H : Int → Option Hd) (path : Bytes) : Prop := ∀ h p b, H h = some (.wr p b) → p ≠ path

set_option maxRecDepth 10000 in
set_option maxHeartbeats 2000000 in
theorem writing_calls {g : Gh} {S : SS} (h : Rep g S w) {sb : Nat} (hs : g.s = sb) {path : Bytes} (hno : NoWr S.handles path) :
    Calls Tryz.prog 73 #[pt sb, .string (bs path)] w fun e w' => e = .returned (.bool false) ∧ Turn (fun _ => False) w w' := by
  subst hs
  obtain ⟨-, -, -, c3, -, -⟩ := s_cells h.base.sb
  have H := Lib.hid (And.intro h hno)
  have hpl := bs_toList path
  clear h hno
  go_enter Tryz.func73, Tryz.ntmps73
  go_wp2_with (first
    | (at_range
       refine wpList_rangeS rfl _ rfl Tryz.underlying78 rfl (H.out.1.handles.m) ?_
       intro w0 cnt0 hrg0 ho
       obtain ⟨o1, ho1⟩ := ho
       have hX := Lib.hid (And.intro hrg0 ho1)
       clear hrg0 ho1)
    | go_in)
  go_frame
  have T1 : Turn (fun _ => False) w w0 := by
    rw [hX.out.2]
    exact (Turn.refl (fun _ => False) w).alloc _
  obtain ⟨R, hR⟩ : ∃ R, w.heap.size = R := ⟨_, rfl⟩
  have HS := Lib.hid (And.intro T1 (And.intro hX.out.1 hR))
  rw [hR]
  clear hR T1 hX c3
  go_loopg [] (cnt0) (fun gk wr => Turn (fun _ => False) w wr ∧ ∃ left, RangeAt wr g.hm R (kh g S.handles) left gk)
  case atStart => exact ⟨HS.out.1, _, HS.out.2.2 ▸ HS.out.2.1⟩
  case round =>
    obtain ⟨hT, left, hrg⟩ := hrel
    have HX := Lib.hid hT
    clear hT
    go_wp2_with (first
      | (at_next; refine wpList_nextS rfl _ rfl rfl hrg ?_ ?_)
      | go_in)
    · intro hc0 hl0
      clear hl0 hrg
      go_wp2
      go_ret
      exact ⟨rfl, HX.out⟩
    · intro k v1 w1 cnt1 hwk hlk hfk hrg1 hlt htn hsz hen
      have R1 : Turn (fun _ => False) w w1 := HX.out.trans' htn (by have := HS.out.2.2; omega)
      obtain ⟨x, hx⟩ : ∃ x, S.handles k = some x := by
        unfold kh at hfk
        cases hh : S.handles k with
        | none => rw [hh] at hfk; cases hfk
        | some x => exact ⟨x, rfl⟩
      have hv1 : v1 = hval g k x := by
        unfold kh at hfk
        rw [hx] at hfk
        exact (Option.some.inj hfk).symm
      subst hv1
      have hd := (H.out.1.new R1).handles.hd k x hx
      have HN := Lib.hid (And.intro hrg1 (And.intro hlt (And.intro R1 hx)))
      clear hrg hrg1 hlt hfk hlk hwk htn R1 hx
      obtain ⟨-, hat, -⟩ := hd
      cases x with
      | rd p b =>
        clear hat
        have hta := run_assert_no (P := Tryz.prog) w1 (t := 131) (x := 86) (a := 90) (pt (g.hb k)) Tryz.underlying90 (by kernel_rfl) (by decide)
        simp only [hval] at hen ⊢
        go_wp2_with fail
        go_roundg (cnt1)
        case measure => exact HN.out.2.1
        case rel => exact ⟨HN.out.2.2.1, _, HN.out.1⟩
      | en p b =>
        clear hat
        have hta := run_assert_no (P := Tryz.prog) w1 (t := 100) (x := 86) (a := 90) (pt (g.hb k)) Tryz.underlying90 (by kernel_rfl) (by decide)
        simp only [hval] at hen ⊢
        go_wp2_with fail
        go_roundg (cnt1)
        case measure => exact HN.out.2.1
        case rel => exact ⟨HN.out.2.2.1, _, HN.out.1⟩
      | wr p b =>
        obtain ⟨v, hb, -⟩ := hat
        have hne := H.out.2 k p b HN.out.2.2.2
        have d0 : w1.cell? ⟨g.hb k, 0, none⟩ = some (.string (bs p)) := cell_at hb rfl
        have hp := bs_toList p
        have q1 : (p == path) = false := beq_eq_false_iff_ne.2 hne
        have hta := run_assert_yes (P := Tryz.prog) w1 (x := 86) (a := 90) (pt (g.hb k)) Tryz.underlying90
        clear hb hne
        simp only [hval] at hen ⊢
        go_wp2_with fail
        go_roundg (cnt1)
        case measure => exact HN.out.2.1
        case rel => exact ⟨HN.out.2.2.1, _, HN.out.1⟩
end
end Go.Str
