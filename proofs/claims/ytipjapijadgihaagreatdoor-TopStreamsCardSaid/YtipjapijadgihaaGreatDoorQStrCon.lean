/-
  The console, where task 1 alone writes: what lies there; New, ready, Screen.
-/
import Derived.Lib.BufferRead
import Derived.Test.YtipjapijadgihaaGreatDoorQStrFiles
set_option linter.unusedVariables false

namespace Go.Str
open Go.Own Go.RowKit Go.Proofs

section
variable {w0 w w' : World} {c om : Nat} {O X : Bytes} {sv ov : Value}

def conCells (lm fm om : Nat) (sv : Value) : Array Value := #[.slice none 0 0, .int .i64 1, .bool false, .int .i64 0, .int .i64 0, .map (some lm), .map (some fm), .map (some om), .int .i64 1, sv]

/-- The console c: on the screen X, of the line O. -/
structure CI (w0 : World) (c om : Nat) (O X : Bytes) (sv ov : Value) (w : World) : Prop where
  turn : Turn (fun _ => False) w0 w
  cb : ∃ lm fm, w.heap[c]? = some (.cells (conCells lm fm om sv) 120 (0, 0))
  m : ∃ f, MapS w om f ∧ (f 1 = some ov ∨ (f 1 = none ∧ ov = .slice none 0 0))
  s : SliceAt w 5 1 sv (bcells X)
  o : SliceAt w 5 1 ov (bcells O)
  yc : w0.heap.size ≤ c
  yo : w0.heap.size ≤ om
  ys : ∀ k, sv.ownBlock = some k → w0.heap.size ≤ k ∧ k ≠ c ∧ k ≠ om ∧ ov.ownBlock ≠ some k
  yv : ∀ k, ov.ownBlock = some k → w0.heap.size ≤ k ∧ k ≠ c ∧ k ≠ om
  co : c ≠ om

theorem con_cells {lm fm om : Nat} (h : w.heap[c]? = some (.cells (conCells lm fm om sv) 120 (0, 0))) :
    w.cell? ⟨c, 0, none⟩ = some (.slice none 0 0) ∧ w.cell? ⟨c, 5, none⟩ = some (.map (some lm)) ∧ w.cell? ⟨c, 7, none⟩ = some (.map (some om)) ∧ w.cell? ⟨c, 8, none⟩ = some (.int .i64 1) ∧ w.cell? ⟨c, 9, none⟩ = some sv ∧ ∀ i, w.frozen? ⟨c, i, none⟩ = false :=
  ⟨cell_at h rfl, cell_at h rfl, cell_at h rfl, cell_at h rfl, cell_at h rfl, fun _ => frozen_at h⟩

theorem cready_calls (h : CI w0 c om O X sv ov w) : Calls Tryz.prog 45 #[pt c] w fun e w' => e = .returned (.tuple #[]) ∧ w' = w := by
  obtain ⟨lm, fm, hb⟩ := h.cb
  obtain ⟨-, c5, -, -, -, -⟩ := con_cells hb
  have q := run_eql_map_nil w 116 _ _ (some lm) Tryz.underlying116
  clear h hb
  go_enter Tryz.func45, Tryz.ntmps45
  go_wp2
  go_end0
  exact ⟨rfl, rfl⟩

def zCon : Array Value := #[.slice none 0 0, .int .i64 0, .bool false, .int .i64 0, .int .i64 0, .map none, .map none, .map none, .int .i64 0, .slice none 0 0]

set_option maxRecDepth 10000 in
set_option maxHeartbeats 2000000 in
theorem cready_new {sb : Nat} (h : w.heap[sb]? = some (.cells zCon 120 (0, 0))) :
    Calls Tryz.prog 45 #[pt sb] w fun e w' => e = .returned (.tuple #[]) ∧ Turn (fun k => k = sb) w w' ∧ (∃ lm fm, w'.heap[sb]? = some (.cells (conCells lm fm (w.heap.size + 2) (.slice none 0 0)) 120 (0, 0))) ∧ MapS w' (w.heap.size + 2) (fun _ => none) := by
  have hlt := heap_lt h
  obtain ⟨w1, hw1⟩ : ∃ w1, (w.setCell ⟨sb, 1, none⟩ (.int .i64 1)).setCell ⟨sb, 8, none⟩ (.int .i64 1) = w1 := ⟨_, rfl⟩
  have b1 : w1.heap[sb]? = some (.cells #[.slice none 0 0, .int .i64 1, .bool false, .int .i64 0, .int .i64 0, .map none, .map none, .map none, .int .i64 1, .slice none 0 0] 120 (0, 0)) := by
    rw [← hw1]; exact heap_setCell_self _ (heap_setCell_self _ h)
  have T1 : Turn (fun k => k = sb) w w1 := by rw [← hw1]; exact ((Turn.refl (fun k => k = sb) w).setCell (p := ⟨sb, 1, none⟩) (fun _ => rfl) _).setCell (p := ⟨sb, 8, none⟩) (fun _ => rfl) _
  obtain ⟨n, hn⟩ : ∃ n, w.heap.size = n := ⟨_, rfl⟩
  have hn1 : w1.heap.size = n := by rw [← hw1]; simpa using hn
  obtain ⟨w4, hw4⟩ : ∃ w4, ((w1.alloc (.map #[] 0)).alloc (.map #[] 0)).alloc (.map #[] 0) = w4 := ⟨_, rfl⟩
  have m2 : w4.heap[n + 2]? = some (.map #[] 0) := by
    rw [← hw4, ← hn1]
    have := heap_alloc_new ((w1.alloc (.map #[] 0)).alloc (.map #[] 0)) (.map #[] 0)
    simpa using this
  have T4 : Turn (fun k => k = sb) w w4 := by rw [← hw4]; exact ((T1.alloc _).alloc _).alloc _
  have hlt1 := heap_lt b1
  have b4 : w4.heap[sb]? = some (.cells #[.slice none 0 0, .int .i64 1, .bool false, .int .i64 0, .int .i64 0, .map none, .map none, .map none, .int .i64 1, .slice none 0 0] 120 (0, 0)) := by
    rw [← hw4, heap_alloc_lt _ _ _ (by simp; omega), heap_alloc_lt _ _ _ (by simp; omega), heap_alloc_lt _ _ _ hlt1]; exact b1
  have k0 : w.cell? ⟨sb, 5, none⟩ = some (.map none) := cell_at h rfl
  have k1 : w.cell? ⟨sb, 1, none⟩ = some (.int .i64 0) := cell_at h rfl
  have k8 : w.cell? ⟨sb, 8, none⟩ = some (.int .i64 0) := cell_at h rfl
  have kf : ∀ i, w.frozen? ⟨sb, i, none⟩ = false := fun i => frozen_at h
  have a5 : w4.cell? ⟨sb, 5, none⟩ = some (.map none) := cell_at b4 rfl
  have a6 : w4.cell? ⟨sb, 6, none⟩ = some (.map none) := cell_at b4 rfl
  have a7 : w4.cell? ⟨sb, 7, none⟩ = some (.map none) := cell_at b4 rfl
  have af : ∀ i, w4.frozen? ⟨sb, i, none⟩ = false := fun i => frozen_at b4
  have HM := Lib.hid (And.intro b4 (And.intro m2 (And.intro T4 (And.intro hlt hn))))
  have HW := Lib.hid hw1
  have q := run_eql_map_nil w 116 _ _ none Tryz.underlying116
  have hmm := @run_makeMap Tryz.prog
  clear h b1 T1 m2 T4 b4 hlt hlt1 hw1
  go_enter Tryz.func45, Tryz.ntmps45
  go_upto_region 2 with fail
  rw [HW.out]
  clear HW k0 k1 k8 kf q
  go_wp2_with fail
  obtain ⟨w5, hw5⟩ : ∃ w5, ((w4.setCell ⟨sb, 5, none⟩ (.map (some n))).setCell ⟨sb, 6, none⟩ (.map (some (n + 1)))).setCell ⟨sb, 7, none⟩ (.map (some (n + 1 + 1))) = w5 := ⟨_, rfl⟩
  rw [hw5]
  have T5 : Turn (fun k => k = sb) w w5 := by
    rw [← hw5]
    exact (((HM.out.2.2.1.setCell (fun _ => rfl) _).setCell (fun _ => rfl) _).setCell (fun _ => rfl) _)
  have hb : ∀ k, k ≠ sb → w5.heap[k]? = w4.heap[k]? := fun k hk => by
    rw [← hw5, heap_setCell_ne _ hk, heap_setCell_ne _ hk, heap_setCell_ne _ hk]
  have hs5 : w5.heap[sb]? = some (.cells (conCells n (n + 1) (n + 2) (.slice none 0 0)) 120 (0, 0)) := by
    rw [← hw5]
    exact heap_setCell_self _ (heap_setCell_self _ (heap_setCell_self _ HM.out.1))
  go_end0
  rw [HM.out.2.2.2.2]
  exact ⟨rfl, T5, ⟨_, _, hs5⟩, MapS.of_block ((hb _ (by have := HM.out.2.2.2.1; have := HM.out.2.2.2.2; omega)).trans HM.out.2.1)⟩

set_option maxRecDepth 10000 in
theorem cnew_calls (w : World) : Calls Tryz.prog 16 #[] w fun e w' => e = .returned (pt w.heap.size) ∧ ∃ om, CI w w.heap.size om [] [] (.slice none 0 0) (.slice none 0 0) w' := by
  have hb := heap_alloc_new w (.cells zCon 120)
  have HR := Lib.hid (cready_new hb)
  clear hb
  go_enter Tryz.func16, Tryz.ntmps16
  go_wp2_with fail
  refine HR.out.mono ?_
  rintro e w1 ⟨rfl, h1, h2, h3⟩
  have HI := Lib.hid (And.intro h1 (And.intro h2 h3))
  clear h1 h2 h3
  go_wp2_with fail
  go_ret
  refine ⟨rfl, _, ?_, HI.out.2.1, ⟨_, HI.out.2.2, .inr ⟨rfl, rfl⟩⟩, SliceAt.nil _ _ _, SliceAt.nil _ _ _, Nat.le_refl _, by simp; omega, fun k hk => by simp [Value.ownBlock] at hk, fun k hk => by simp [Value.ownBlock] at hk, by simp; omega⟩
  have t := HI.out.1
  refine ⟨t.os, t.tape, t.output, by have := t.size; simp at this; omega, fun k hk _ => ?_⟩
  rw [t.block k (by simp; omega) (by omega)]
  exact heap_alloc_lt w _ k hk
end
end Go.Str

/-
  The console: echo, line.
-/
namespace Go.Str
open Go.Own Go.RowKit Go.Proofs

section
variable {w0 w w' w1 : World} {c om : Nat} {O X X' : Bytes} {sv ov v' : Value}

/-- The screen has turned. -/
theorem CI.set_screen (h : CI w0 c om O X sv ov w) (ht : Turn (fun k => sv.ownBlock = some k) w w1) (hs : SliceAt w1 5 1 v' (bcells X')) (hw : ∀ k, v'.ownBlock = some k → sv.ownBlock = some k ∨ w.heap.size ≤ k) :
    CI w0 c om O X' v' ov (w1.setCell ⟨c, 9, none⟩ v') := by
  obtain ⟨lm, fm, hb⟩ := h.cb
  have hlt := heap_lt hb
  have hsz := ht.size
  have h0 := h.turn.size
  have hb1 : w1.heap[c]? = some (.cells (conCells lm fm om sv) 120 (0, 0)) := by
    rw [ht.block c hlt (fun e => (h.ys _ e).2.1 rfl)]; exact hb
  obtain ⟨f, hf, hf1⟩ := h.m
  have hc : c < w1.heap.size := by omega
  have hne : ∀ k, v'.ownBlock = some k → k ≠ c := fun k hk => by
    rcases hw k hk with e | e
    · exact (h.ys k e).2.1
    · omega
  refine ⟨?_, ⟨lm, fm, heap_setCell_self _ hb1⟩, ⟨f, hf.keep ?_, hf1⟩, ?_, ?_, h.yc, h.yo, fun k hk => ?_, h.yv, h.co⟩
  · exact (h.turn.young ht (fun k hk => (h.ys k hk).1)).setCell (fun hlt => by have := h.yc; dsimp only at hlt; omega) _
  · rw [heap_setCell_ne _ (fun e => h.co e.symm)]
    exact ht.block _ hf.lt (fun e => (h.ys _ e).2.2.1 rfl)
  · exact hs.keep fun k hk => heap_setCell_ne _ (hne k hk)
  · refine (h.o.turn ht (fun k hk e => (h.ys k e).2.2.2 hk)).keep fun k hk => heap_setCell_ne _ (h.yv k hk).2.1
  · rcases hw k hk with e | e
    · exact h.ys k e
    · have h2 := hf.lt
      have h3 := h.yc
      exact ⟨by omega, hne k hk, by omega, fun e' => by have := h.o.lt k e'; omega⟩

theorem CI.set8 (h : CI w0 c om O X sv ov w) : CI w0 c om O X sv ov (w.setCell ⟨c, 8, none⟩ (.int .i64 1)) := by
  obtain ⟨lm, fm, hb⟩ := h.cb
  obtain ⟨f, hf, hf1⟩ := h.m
  refine ⟨h.turn.setCell (fun hlt => by have := h.yc; dsimp only at hlt; omega) _, ⟨lm, fm, heap_setCell_self _ hb⟩, ⟨f, hf.keep (heap_setCell_ne _ (fun e => h.co e.symm)), hf1⟩, h.s.keep fun k hk => heap_setCell_ne _ (h.ys k hk).2.1, h.o.keep fun k hk => heap_setCell_ne _ (h.yv k hk).2.1, h.yc, h.yo, h.ys, h.yv, h.co⟩

theorem CI.new (h : CI w0 c om O X sv ov w) (ht : Turn (fun _ => False) w w1) : CI w0 c om O X sv ov w1 := by
  obtain ⟨lm, fm, hb⟩ := h.cb
  obtain ⟨f, hf, hf1⟩ := h.m
  refine ⟨h.turn.trans ht, ⟨lm, fm, by rw [ht.block c (heap_lt hb) (fun e => e)]; exact hb⟩, ⟨f, hf.keep (ht.block _ hf.lt (fun e => e)), hf1⟩, h.s.turn ht (fun _ _ e => e), h.o.turn ht (fun _ _ e => e), h.yc, h.yo, h.ys, h.yv, h.co⟩

def EchoPost (w0 : World) (c om : Nat) (O X : Bytes) (ov : Value) (e : Ending) (w' : World) : Prop :=
  e = .returned (.tuple #[]) ∧ ∃ sv', CI w0 c om O X sv' ov w'

set_option maxRecDepth 10000 in
set_option maxHeartbeats 1000000 in
theorem echo_none (h : CI w0 c om O X sv ov w) (hX : X.length ≤ 100000) : Calls Tryz.prog 83 #[pt c, .string { data := #[] }] w (EchoPost w0 c om O X ov) := by
  obtain ⟨lm, fm, hb⟩ := h.cb
  obtain ⟨-, -, -, -, c9, cf⟩ := con_cells hb
  have H := Lib.hid (And.intro h hX)
  have hs := h.s
  obtain ⟨va, vc, rfl, -, -⟩ := bytes_form hs
  simp only [bcells_length] at hs c9 H ⊢
  have HS := Lib.hid hs
  clear h hX hs hb
  go_enter Tryz.func83, Tryz.ntmps83
  go_wp2_with (at_builtin; refine wpList_append _ rfl _ _ 30 9 rfl 5 1 1 (.int .u8 0) Tryz.underlying30 (.inl Tryz.underlying9) elemU8 (.slice va X.length vc) (bcells X) rfl HS.out _ _ _ rfl (Src.str _ rfl) (by intro u hu; cases hu) (by have := H.out.2; simp [Lib.strCells]; omega) (by have := H.out.2; simp [Lib.strCells]; omega) ?_
               intro v' w1 hv' ht hw hn; clear hn; obtain ⟨ra, rn, rc, rfl, -⟩ := hv'.form
               have hF := Lib.hid (And.intro hv' (And.intro ht hw))
               have d9 : w1.frozen? ⟨c, 9, none⟩ = false := by
                 obtain ⟨lm, fm, hb⟩ := H.out.1.cb
                 rw [ht.frozen (p := ⟨c, 9, none⟩) (fun e => (H.out.1.ys _ e).2.1 rfl) (heap_lt hb)]
                 exact cf 9
               have e9 : w1.cell? ⟨c, 9, none⟩ = some (.slice va X.length vc) := by
                 obtain ⟨lm, fm, hb⟩ := H.out.1.cb
                 rw [ht.cell (p := ⟨c, 9, none⟩) (fun e => (H.out.1.ys _ e).2.1 rfl) (heap_lt hb)]
                 exact c9
               clear hv' ht hw c9 cf)
  go_end0
  have hs1 := hF.out.1
  rw [show Lib.strCells ({ data := #[] } : ByteArray) = [] from rfl, List.append_nil] at hs1
  exact ⟨rfl, _, H.out.1.set_screen hF.out.2.1 hs1 (fun k hk => by
    rcases hF.out.2.2 with e | e
    · exact .inl (e ▸ hk)
    · rw [e] at hk; cases hk; exact .inr (Nat.le_refl _))⟩

set_option maxRecDepth 10000 in
set_option maxHeartbeats 2000000 in
theorem line_calls (h : CI w0 c om O X sv ov w) (hX : X.length ≤ 10000) (hO : O.length ≤ 100) : Calls Tryz.prog 46 #[pt c, .int .i64 1, ov] w (EchoPost w0 c om O (X ++ O ++ [10]) ov) := by
  obtain ⟨lm, fm, hb⟩ := h.cb
  obtain ⟨c0, -, -, c8, -, cf⟩ := con_cells hb
  have h8 := h.set8
  obtain ⟨wA, hwA⟩ : ∃ wA, w.setCell ⟨c, 8, none⟩ (.int .i64 1) = wA := ⟨_, rfl⟩
  rw [hwA] at h8
  obtain ⟨lm8, fm8, hb8⟩ := h8.cb
  obtain ⟨-, -, -, -, c9, cf9⟩ := con_cells hb8
  have hs := h8.s
  have ho := h8.o
  obtain ⟨va, vc, rfl, -, -⟩ := bytes_form hs
  obtain ⟨oa, oc, rfl, -, -⟩ := bytes_form ho
  simp only [bcells_length] at hs ho c9 h8 ⊢
  have H := Lib.hid (And.intro h8 (And.intro hX (And.intro hO (And.intro hs ho))))
  have HW := Lib.hid hwA
  clear h hb hX hO hs ho h8 hb8 hwA
  go_enter Tryz.func46, Tryz.ntmps46
  go_upto_region 5 with fail
  rw [HW.out]
  clear HW c0 c8 cf
  have qc : ∀ W, (convert 30 9 (.slice none 0 0)).run Tryz.prog W = .ok (.string { data := #[] }) W := fun W => Lib.run_convert_nil_bytes W 30 9 5 0 Tryz.underlying30 Tryz.underlying5 Tryz.underlying9
  go_wp2_with (at_builtin; first
    | (refine wpList_append _ rfl _ _ 30 30 rfl 5 1 1 (.int .u8 0) Tryz.underlying30 (.inr ⟨_, Tryz.underlying30⟩) elemU8 (.slice va X.length vc) (bcells X) rfl H.out.2.2.2.1 _ _ _ rfl (Src.of_slice H.out.2.2.2.2) (bcells_one _) (by have := H.out.2; simp; omega) (by have := H.out.2; simp; omega) ?_
       intro v' w1 hv' ht hw hn; clear hn; obtain ⟨ra, rn, rc, rfl, -⟩ := hv'.form
       have hF := Lib.hid (And.intro hv' (And.intro ht hw))
       clear hv' ht hw)
    | (refine wpList_append _ rfl _ _ 30 30 rfl 5 1 1 (.int .u8 0) Tryz.underlying30 (.inr ⟨_, Tryz.underlying30⟩) elemU8 (.slice ra rn rc) (bcells X ++ bcells O) rfl (hF.out.1.turn ((Turn.refl (fun _ => False) w1).alloc _) (fun _ _ e => e)) _ _ _ rfl (Src.block (heap_alloc_new w1 (.cells #[.int .u8 10] 5)) rfl) (by intro u hu; simp at hu; subst hu; rfl) (by have := H.out.2; simp; omega) (by have := H.out.2; simp; omega) ?_
       intro v' w2 hv' ht hw hn; clear hn; obtain ⟨qa, qn, qc, rfl, -⟩ := hv'.form
       have hz1 := hF.out.2.1.size
       have T2 : Turn (fun k => (Value.slice va X.length vc).ownBlock = some k) wA w2 := by
         refine ⟨ht.os.trans hF.out.2.1.os, ht.tape.trans hF.out.2.1.tape, ht.output.trans hF.out.2.1.output, by have := ht.size; simp at this; omega, fun k hk hs => ?_⟩
         rw [ht.block k (by simp; omega) (fun e => by
           rcases hF.out.2.2 with e' | e'
           · exact hs (e' ▸ e)
           · have := e'.symm.trans e; cases this; omega), heap_alloc_lt _ _ _ (by omega)]
         exact hF.out.2.1.block k hk hs
       have O2 : ∀ k, (Value.slice qa qn qc).ownBlock = some k → (Value.slice va X.length vc).ownBlock = some k ∨ wA.heap.size ≤ k := fun k hk => by
         rcases hw with e | e
         · rw [e] at hk
           rcases hF.out.2.2 with e' | e'
           · exact .inl (e' ▸ hk)
           · rw [e'] at hk; cases hk; exact .inr (Nat.le_refl _)
         · rw [e] at hk; cases hk; exact .inr (by simp; omega)
       have hG := Lib.hid (And.intro hv' (And.intro T2 O2))
       have d9 : w2.frozen? ⟨c, 9, none⟩ = false := by
         obtain ⟨lm, fm, hb⟩ := H.out.1.cb
         rw [T2.frozen (p := ⟨c, 9, none⟩) (fun e => (H.out.1.ys _ e).2.1 rfl) (heap_lt hb)]
         exact cf9 9
       have e9 : w2.cell? ⟨c, 9, none⟩ = some (.slice va X.length vc) := by
         obtain ⟨lm, fm, hb⟩ := H.out.1.cb
         rw [T2.cell (p := ⟨c, 9, none⟩) (fun e => (H.out.1.ys _ e).2.1 rfl) (heap_lt hb)]
         exact c9
       have hC := H.out.1.set_screen (X' := X ++ O ++ [10]) T2 (by have := hv'; rw [← bcells_append, show ((#[Value.int .u8 10] : Array Value).toList) = bcells [10] from rfl, ← bcells_append] at this; exact this) O2
       have HC := Lib.hid hC
       obtain ⟨lm9, fm9, hb9⟩ := hC.cb
       obtain ⟨f0, -, -, -, -, -⟩ := con_cells hb9
       have HH := Lib.hid hb9
       clear hv' ht hw c9 cf9 hC hb9 T2 O2))
  refine (echo_none HC.out (by have := H.out.2; simp; omega)).mono ?_
  rintro e3 w3 ⟨rfl, sv', h3⟩
  have H3 := Lib.hid h3
  clear h3
  go_wp2_with fail
  go_end0
  exact ⟨rfl, sv', H3.out⟩
end
end Go.Str
