/-
  Write to a pipe's end, walked.
-/
import Derived.Test.YtipjapijadgihaaGreatDoorQStrWrite
set_option linter.unusedVariables false

namespace Go.Str
open Go.Own Go.RowKit Go.Proofs

section
variable {g g' : Gh} {S : SS} {w w' : World}

theorem run_assert_nothing {P : Program} (w : World) {t x a : TypeId} {fs : Array Field} (v : Value) (hu : P.underlying a = some (.struct fs)) (hz : (zeroValue a).run P w = .ok (.agg #[.bool false]) w) (hne : t ≠ a) :
    (Instr.typeAssert (.iface t v) x a true).run P w = .ok (.tuple #[.agg #[.bool false], .bool false]) w := by
  simp [Instr.typeAssert, run_underlying hu, hne, hz]

/-- A pipe's row has grown. -/
theorem Rep.put_pipe (h : Rep g S w) {name : Bytes} {x : Pp} {zs : Bytes} {v v' : Value} {w1 : World} (hx : S.pipes name = some x) (hb : w.heap[g.pb name]? = some (.cells #[v, .int .i64 64, .bool x.wrote, .bool x.writing, .bool x.read, .bool x.reading] 106 (0, 0))) (hv : SliceT g.ρ (6, 0) w v (bcells x.b))
    (hs1 : SliceAt w1 5 1 v' (bcells (x.b ++ zs))) (ht : Turn (fun k => v.ownBlock = some k) w w1) (ho : v'.ownBlock = v.ownBlock ∨ ∃ k, v'.ownBlock = some k ∧ w.heap.size ≤ k ∧ k < w1.heap.size) :
    ∃ ρ', Rep { g with ρ := ρ' } { S with pipes := updB S.pipes name (some { x with b := x.b ++ zs }) } (w1.setCell ⟨g.pb name, 0, none⟩ v') ∧ Step g { g with ρ := ρ' } w (w1.setCell ⟨g.pb name, 0, none⟩ v') := by
  obtain ⟨t5, -, -, -⟩ := h.pipes.pipe name x hx
  have hlt := heap_lt hb
  have hne : v.ownBlock ≠ some (g.pb name) := fun e => by have := hv.2 _ e; rw [t5] at this; cases this
  have T2 : Turn (fun k => k = g.pb name ∨ g.ρ k = (6, 0)) w (w1.setCell ⟨g.pb name, 0, none⟩ v') := (ht.mono fun k _ e => .inr (hv.2 k e)).setCell (fun _ => .inl rfl) _
  have hb1 : w1.heap[g.pb name]? = some (.cells #[v, .int .i64 64, .bool x.wrote, .bool x.writing, .bool x.read, .bool x.reading] 106 (0, 0)) := by rw [ht.block _ hlt hne]; exact hb
  have hr : ∀ k, k < w.heap.size → retag g.ρ w.heap.size w1.heap.size (6, 0) k = g.ρ k := fun k hk => retag_old _ _ hk
  refine ⟨retag g.ρ w.heap.size w1.heap.size (6, 0), h.set_pipe (x' := { x with b := x.b ++ zs }) (v' := v') hx T2 hr (fun k hk => ?_) (heap_setCell_self _ hb1) ⟨?_, fun k hk => ?_⟩⟩
  · have hk' : w1.heap.size ≤ k := by simpa using hk
    rw [retag_fresh hk']
    exact h.base.fresh k (by have := ht.size; omega)
  · refine hs1.keep fun k hk => heap_setCell_ne _ fun e => ?_
    rcases ho with e2 | ⟨j, e2, e3, -⟩
    · rw [e2, e] at hk; exact hne hk
    · rw [e2] at hk; have := Option.some.inj hk; dsimp only at e; omega
  · rcases ho with e2 | ⟨j, e2, e3, e4⟩
    · rw [e2] at hk
      exact (hr k (hv.1.lt k hk)).trans (hv.2 k hk)
    · rw [e2] at hk
      have := Option.some.inj hk
      exact retag_new _ _ (by omega) (by omega)

set_option maxRecDepth 10000 in
set_option maxHeartbeats 4000000 in
theorem write_en (h : Rep g S w) {sb : Nat} (hs : g.s = sb) {i : Int} {name ys : Bytes} {x : Pp} {u : Value} (hx : S.handles i = some (.en name false)) (hp : S.pipes name = some x) (hl : S.last ≤ 1000) (hu : SliceAt w 5 1 u (bcells ys)) (hlen : ys.length ≤ 100000) (hlx : x.b.length ≤ 64) (hn64 : x.b.length ≠ 64) (hy : ys ≠ []) (hrr : x.read = true → x.reading = true) :
    Calls Tryz.prog 10 #[pt sb, .int .i64 i, u] w (WritePost g { S with pipes := updB S.pipes name (some { x with b := x.b ++ ys.take (fits 64 x.b ys) }) } (fits 64 x.b ys) w) := by
  subst hs
  obtain ⟨-, -, -, c3, -, -⟩ := s_cells h.base.sb
  have hlk := h.lookup_handle hx hl
  obtain ⟨t2, hat, -, -⟩ := h.handles.hd i _ hx
  obtain ⟨t5, v, hb, hv⟩ := h.pipes.pipe name x hp
  have hat' : w.heap[g.hb i]? = some (.cells #[.string (bs name), pt (g.pb name), .bool false] 104 (0, 0)) := hat
  obtain ⟨nb, hnb⟩ : ∃ nb, g.hb i = nb := ⟨_, rfl⟩
  obtain ⟨pb, hpb⟩ : ∃ pb, g.pb name = pb := ⟨_, rfl⟩
  simp only [hval] at hlk
  rw [hnb] at hlk hat' t2
  rw [hpb] at hat' hb t5
  obtain ⟨w1, hw1⟩ : ∃ w1, w.alloc (.cells #[.bool false] 98) = w1 := ⟨_, rfl⟩
  have T1 : Turn (fun _ => False) w w1 := by rw [← hw1]; exact (Turn.refl _ w).alloc _
  have hat1 : w1.heap[nb]? = some (.cells #[.string (bs name), pt pb, .bool false] 104 (0, 0)) := by rw [T1.block nb (heap_lt hat') (fun e => e)]; exact hat'
  have hb1 : w1.heap[pb]? = some (.cells #[v, .int .i64 64, .bool x.wrote, .bool x.writing, .bool x.read, .bool x.reading] 106 (0, 0)) := by rw [T1.block pb (heap_lt hb) (fun e => e)]; exact hb
  have hv1 := hv.1.turn T1 (fun _ _ e => e)
  have hu1 := hu.turn T1 (fun _ _ e => e)
  obtain ⟨va, vc, rfl, -, -⟩ := bytes_form hv.1
  obtain ⟨ua, uc, rfl, -, -⟩ := bytes_form hu
  simp only [bcells_length] at hb hb1 hv hv1 hu hu1 ⊢
  have a0 : w1.cell? ⟨nb, 1, none⟩ = some (pt pb) := cell_at hat1 rfl
  have a1 : w1.cell? ⟨nb, 2, none⟩ = some (.bool false) := cell_at hat1 rfl
  have d0 : w1.cell? ⟨pb, 0, none⟩ = some (.slice va x.b.length vc) := cell_at hb1 rfl
  have d1 : w1.cell? ⟨pb, 1, none⟩ = some (.int .i64 64) := cell_at hb1 rfl
  have d4 : w1.cell? ⟨pb, 4, none⟩ = some (.bool x.read) := cell_at hb1 rfl
  have d5 : w1.cell? ⟨pb, 5, none⟩ = some (.bool x.reading) := cell_at hb1 rfl
  have hta := run_assert_no (P := Tryz.prog) w (t := 100) (x := 86) (a := 90) (pt nb) Tryz.underlying90 (by kernel_rfl) (by decide)
  have htb := run_assert_nothing (P := Tryz.prog) w (t := 100) (x := 86) (a := 98) (pt nb) Tryz.underlying98 (by kernel_rfl) (by decide)
  have htc := run_assert_yes (P := Tryz.prog) w1 (x := 86) (a := 100) (pt nb) Tryz.underlying100
  have hne : (Value.slice va x.b.length vc).ownBlock ≠ some pb := fun e => by have := hv.2 pb e; rw [t5] at this; cases this
  have hP := rowput_calls (w := w1) (b := pb) (o := 0) (most := 64) hv1 hu1 d0 d1 (frozen_at hb1) hne hlx (by omega) hlen
  have H := Lib.hid (And.intro (h.new T1) (And.intro hp (And.intro hb1 (And.intro (⟨hv1, hv.2⟩ : SliceT g.ρ (6, 0) w1 _ _) (And.intro hP (And.intro T1 hpb))))))
  have HW := Lib.hid hw1
  have hy0 : decide (0 < (ys.length : Int)) = true := decide_eq_true (by have := List.length_pos_iff.2 hy; omega)
  have hy0' : (0 < ys.length) = True := eq_true (List.length_pos_iff.2 hy)
  have h64 : ((x.b.length : Int) == 64) = false := beq_eq_false_iff_ne.2 (by omega)
  have h64' : (x.b.length = 64) = False := eq_false hn64
  clear h hx t2 hb hb1 hv hu hP hnb hpb hat hat' hat1 hv1 hu1 T1 hne hw1 hp hn64 hy t5
  go_enter Tryz.func10, Tryz.ntmps10
  go_upto_region 12 with fail
  rw [HW.out]
  clear HW c3 hlk hta htb
  have hor : (x.read = false) ∨ (x.read = true ∧ x.reading = true) := by
    cases hr : x.read with
    | false => exact .inl rfl
    | true => exact .inr ⟨rfl, hrr hr⟩
  clear hrr
  rcases hor with hr | ⟨hr, hr2⟩
  · rw [hr] at d4
    clear hr
    go_wp2_with fail
    refine H.out.2.2.2.2.1.mono ?_
    rintro e1 w2 ⟨w3, v', rfl, rfl, hs2, ht2, ho2⟩
    have HP := Lib.hid (And.intro hs2 (And.intro ht2 ho2))
    clear hs2 ht2 ho2
    go_wp2_with fail
    go_ret2
    have hpb := H.out.2.2.2.2.2.2
    subst hpb
    obtain ⟨ρ', h1, h2⟩ := H.out.1.put_pipe H.out.2.1 H.out.2.2.1 H.out.2.2.2.1 HP.out.1 HP.out.2.1 HP.out.2.2
    exact ⟨rfl, _, h1, (Step.fresh g H.out.2.2.2.2.2.1).trans h2⟩
  · rw [hr] at d4
    rw [hr2] at d5
    clear hr hr2
    go_wp2_with fail
    refine H.out.2.2.2.2.1.mono ?_
    rintro e1 w2 ⟨w3, v', rfl, rfl, hs2, ht2, ho2⟩
    have HP := Lib.hid (And.intro hs2 (And.intro ht2 ho2))
    clear hs2 ht2 ho2
    go_wp2_with fail
    go_ret2
    have hpb := H.out.2.2.2.2.2.2
    subst hpb
    obtain ⟨ρ', h1, h2⟩ := H.out.1.put_pipe H.out.2.1 H.out.2.2.1 H.out.2.2.2.1 HP.out.1 HP.out.2.1 HP.out.2.2
    exact ⟨rfl, _, h1, (Step.fresh g H.out.2.2.2.2.2.1).trans h2⟩

/-- The pipe is full. -/
def FullPost (g : Gh) (S : SS) (w : World) (e : Ending) (w' : World) : Prop :=
  e = .returned (.tuple #[.int .i64 0, .int .i64 5]) ∧ Rep g S w' ∧ Turn (fun _ => False) w w'

set_option maxRecDepth 10000 in
set_option maxHeartbeats 4000000 in
theorem write_full (h : Rep g S w) {sb : Nat} (hs : g.s = sb) {i : Int} {name ys : Bytes} {x : Pp} {u : Value} (hx : S.handles i = some (.en name false)) (hp : S.pipes name = some x) (hl : S.last ≤ 1000) (hu : SliceAt w 5 1 u (bcells ys)) (hn64 : x.b.length = 64) (hy : ys ≠ []) (hrr : x.read = true → x.reading = true) :
    Calls Tryz.prog 10 #[pt sb, .int .i64 i, u] w (FullPost g S w) := by
  subst hs
  obtain ⟨-, -, -, c3, -, -⟩ := s_cells h.base.sb
  have hlk := h.lookup_handle hx hl
  obtain ⟨t2, hat, -, -⟩ := h.handles.hd i _ hx
  obtain ⟨t5, v, hb, hv⟩ := h.pipes.pipe name x hp
  have hat' : w.heap[g.hb i]? = some (.cells #[.string (bs name), pt (g.pb name), .bool false] 104 (0, 0)) := hat
  obtain ⟨nb, hnb⟩ : ∃ nb, g.hb i = nb := ⟨_, rfl⟩
  obtain ⟨pb, hpb⟩ : ∃ pb, g.pb name = pb := ⟨_, rfl⟩
  simp only [hval] at hlk
  rw [hnb] at hlk hat' t2
  rw [hpb] at hat' hb t5
  obtain ⟨w1, hw1⟩ : ∃ w1, w.alloc (.cells #[.bool false] 98) = w1 := ⟨_, rfl⟩
  have T1 : Turn (fun _ => False) w w1 := by rw [← hw1]; exact (Turn.refl _ w).alloc _
  have hat1 : w1.heap[nb]? = some (.cells #[.string (bs name), pt pb, .bool false] 104 (0, 0)) := by rw [T1.block nb (heap_lt hat') (fun e => e)]; exact hat'
  have hb1 : w1.heap[pb]? = some (.cells #[v, .int .i64 64, .bool x.wrote, .bool x.writing, .bool x.read, .bool x.reading] 106 (0, 0)) := by rw [T1.block pb (heap_lt hb) (fun e => e)]; exact hb
  obtain ⟨va, vc, rfl, -, -⟩ := bytes_form hv.1
  obtain ⟨ua, uc, rfl, -, -⟩ := bytes_form hu
  simp only [bcells_length, hn64] at hb hb1 hv hu ⊢
  have a0 : w1.cell? ⟨nb, 1, none⟩ = some (pt pb) := cell_at hat1 rfl
  have a1 : w1.cell? ⟨nb, 2, none⟩ = some (.bool false) := cell_at hat1 rfl
  have d0 : w1.cell? ⟨pb, 0, none⟩ = some (.slice va 64 vc) := cell_at hb1 rfl
  have d4 : w1.cell? ⟨pb, 4, none⟩ = some (.bool x.read) := cell_at hb1 rfl
  have d5 : w1.cell? ⟨pb, 5, none⟩ = some (.bool x.reading) := cell_at hb1 rfl
  have hta := run_assert_no (P := Tryz.prog) w (t := 100) (x := 86) (a := 90) (pt nb) Tryz.underlying90 (by kernel_rfl) (by decide)
  have htb := run_assert_nothing (P := Tryz.prog) w (t := 100) (x := 86) (a := 98) (pt nb) Tryz.underlying98 (by kernel_rfl) (by decide)
  have htc := run_assert_yes (P := Tryz.prog) w1 (x := 86) (a := 100) (pt nb) Tryz.underlying100
  have H := Lib.hid (And.intro (h.new T1) T1)
  have HW := Lib.hid hw1
  have hy0' : (0 < ys.length) = True := eq_true (List.length_pos_iff.2 hy)
  clear h hx t2 hb hb1 hv hu hnb hpb hat hat' hat1 T1 hw1 hp hy t5
  go_enter Tryz.func10, Tryz.ntmps10
  go_upto_region 12 with fail
  rw [HW.out]
  clear HW c3 hlk hta htb
  have hor : (x.read = false) ∨ (x.read = true ∧ x.reading = true) := by
    cases hr : x.read with
    | false => exact .inl rfl
    | true => exact .inr ⟨rfl, hrr hr⟩
  clear hrr
  rcases hor with hr | ⟨hr, hr2⟩
  · rw [hr] at d4
    clear hr
    go_wp2_with fail
    go_ret2
    exact ⟨rfl, H.out⟩
  · rw [hr] at d4
    rw [hr2] at d5
    clear hr hr2
    go_wp2_with fail
    go_ret2
    exact ⟨rfl, H.out⟩
end
end Go.Str
