/-
  ready on a kernel that has nothing yet; New.
-/
import Derived.Test.YtcfegaclbkggpaaRndCalls
namespace Go.Rnd
open Go.Own Go.RowKit Go.Proofs

section
variable {w w' : World}

def zCells : Array Value := #[.map none, .map none, .map none, .int .i64 0, .slice none 0 0, .int .i64 0]
def nCells (a b c : Nat) : Array Value := #[.map (some a), .map (some b), .map (some c), .int .i64 0, .slice none 0 0, .int .i64 0]

/-- The maps are made, the devices are under way. -/
structure NewI (kb : Nat) (w0 w : World) : Prop where
  blk : w.heap[kb]? = some (.cells (nCells w0.heap.size (w0.heap.size + 1) (w0.heap.size + 2)) 43 (0, 0))
  m1 : w.heap[w0.heap.size]? = some (.map #[] 0)
  m2 : ∃ f, MapS w (w0.heap.size + 1) f
  m3 : w.heap[w0.heap.size + 2]? = some (.map #[] 0)
  turn : Turn (fun k => k = kb) w0 w

set_option maxRecDepth 10000 in
set_option maxHeartbeats 2000000 in
theorem ready_new {kb : Nat} (h : w.heap[kb]? = some (.cells zCells 43 (0, 0))) : Calls Try.prog 10 #[pt kb] w fun e w' => e = .returned (.tuple #[]) ∧ NewI kb w w' := by
  have hkl := heap_lt h
  obtain ⟨w3, hw3⟩ : ∃ w3, ((w.alloc (.map #[] 0)).alloc (.map #[] 0)).alloc (.map #[] 0) = w3 := ⟨_, rfl⟩
  have h3 : w3.heap[kb]? = some (.cells zCells 43 (0, 0)) := by
    rw [← hw3, heap_alloc_lt _ _ _ (by simp; omega), heap_alloc_lt _ _ _ (by simp; omega), heap_alloc_lt _ _ _ hkl]; exact h
  have m1 : w3.heap[w.heap.size]? = some (.map #[] 0) := by
    rw [← hw3, heap_alloc_lt _ _ _ (by simp; omega), heap_alloc_lt _ _ _ (by simp)]; exact heap_alloc_new w _
  have m2 : w3.heap[w.heap.size + 1]? = some (.map #[] 0) := by
    rw [← hw3, heap_alloc_lt _ _ _ (by simp)]
    have := heap_alloc_new (w.alloc (.map #[] 0)) (.map #[] 0)
    simpa using this
  have m3 : w3.heap[w.heap.size + 2]? = some (.map #[] 0) := by
    rw [← hw3]
    have := heap_alloc_new ((w.alloc (.map #[] 0)).alloc (.map #[] 0)) (.map #[] 0)
    simpa using this
  have T3 : Turn (fun k => k = kb) w w3 := by
    rw [← hw3]; exact (((Turn.refl _ w).alloc _).alloc _).alloc _
  have HM := Lib.hid (And.intro hw3 (And.intro h3 (And.intro m1 (And.intro m2 (And.intro m3 T3)))))
  have k0 : w.cell? ⟨kb, 0, none⟩ = some (.map none) := cell_at h rfl
  have a0 : (((w.alloc (.map #[] 0)).alloc (.map #[] 0)).alloc (.map #[] 0)).cell? ⟨kb, 0, none⟩ = some (.map none) := by rw [hw3]; exact cell_at h3 rfl
  have a1 : (((w.alloc (.map #[] 0)).alloc (.map #[] 0)).alloc (.map #[] 0)).cell? ⟨kb, 1, none⟩ = some (.map none) := by rw [hw3]; exact cell_at h3 rfl
  have a2 : (((w.alloc (.map #[] 0)).alloc (.map #[] 0)).alloc (.map #[] 0)).cell? ⟨kb, 2, none⟩ = some (.map none) := by rw [hw3]; exact cell_at h3 rfl
  have af : ∀ i, (((w.alloc (.map #[] 0)).alloc (.map #[] 0)).alloc (.map #[] 0)).frozen? ⟨kb, i, none⟩ = false := fun i => by rw [hw3]; exact frozen_at h3
  clear h3 m1 m2 m3 T3 hw3
  have q := run_neq_map_nil w 38 _ _ none Try.underlying38
  have hmm := @run_makeMap Try.prog
  have H := Lib.hid h
  clear h
  go_enter Try.func10, Try.ntmps10
  go_wp2_with fail
  rw [HM.out.1]
  obtain ⟨w4, hw4⟩ : ∃ w4, ((w3.setCell ⟨kb, 0, none⟩ (.map (some w.heap.size))).setCell ⟨kb, 1, none⟩ (.map (some (w.heap.size + 1)))).setCell ⟨kb, 2, none⟩ (.map (some (w.heap.size + 1 + 1))) = w4 := ⟨_, rfl⟩
  have hst : NewI kb w w4 := by
    have hne : ∀ b, w.heap.size ≤ b → b ≠ kb := fun b hb e => by omega
    rw [← hw4]
    refine ⟨heap_setCell_self _ (heap_setCell_self _ (heap_setCell_self _ HM.out.2.1)), ?_, ⟨_, MapS.of_block ?_⟩, ?_, HM.out.2.2.2.2.2.trans (turn_set3 _ _ _ _ _ _ _ _)⟩
    · rw [heap_setCell_ne _ (hne _ (Nat.le_refl _)), heap_setCell_ne _ (hne _ (Nat.le_refl _)), heap_setCell_ne _ (hne _ (Nat.le_refl _))]; exact HM.out.2.2.1
    · rw [heap_setCell_ne _ (hne _ (by omega)), heap_setCell_ne _ (hne _ (by omega)), heap_setCell_ne _ (hne _ (by omega))]; exact HM.out.2.2.2.1
    · rw [heap_setCell_ne _ (hne _ (by omega)), heap_setCell_ne _ (hne _ (by omega)), heap_setCell_ne _ (hne _ (by omega))]; exact HM.out.2.2.2.2.1
  rw [hw4]
  have HS := Lib.hid hst
  clear hst hw4 k0 a0 a1 a2 af q hmm
  go_loopg [2] (5) (fun gk dv wr => ∃ d : Nat, gk + d = 6 ∧ 1 ≤ d ∧ dv = .int .i64 d ∧ NewI kb w wr)
  case atStart => exact ⟨1, rfl, Nat.le_refl _, rfl, HS.out⟩
  case round =>
    obtain ⟨d, hd, hd1, rfl, hI⟩ := hrel
    have k1 : wr.cell? ⟨kb, 1, none⟩ = some (.map (some (w.heap.size + 1))) := cell_at hI.blk rfl
    have HI := Lib.hid hI
    clear hI
    by_cases h5 : d ≤ 5
    · obtain ⟨f, hf⟩ := HI.out.m2
      have hM : MapS (wr.alloc (.cells #[.slice none 0 0] 58)) (w.heap.size + 1) f := hf.keep (heap_alloc_lt wr _ _ hf.lt)
      have q1 : decide ((d : Int) ≤ 5) = true := decide_eq_true (by omega)
      have i1 : IntKind.i64.wrap (-(d : Int)) = -(d : Int) := IntWalk.i64_in _ (by omega)
      have i2 : IntKind.i64.wrap ((d : Int) + 1) = (d : Int) + 1 := IntWalk.i64_in _ (by omega)
      have HF := Lib.hid hf.lt
      clear hf
      generalize hG : gk = GK at *
      clear hG
      go_wp2_with (
        refine wpList_updateS rfl _ _ _ rfl Try.underlying3 Try.underlying39 rfl hM rfl (wf_i64 (by omega) (by omega)) rfl ?_
        intro w6 hM6 ht6 hs6)
      have hn : NewI kb w w6 := by
        have hz := HI.out.turn.size
        have hB : ∀ b, b < wr.heap.size → b ≠ w.heap.size + 1 → w6.heap[b]? = wr.heap[b]? := fun b hb hne => by
          rw [ht6.block b (by simp; omega) hne, heap_alloc_lt wr _ _ hb]
        refine ⟨?_, ?_, ⟨_, hM6⟩, ?_, ?_⟩
        · rw [hB kb (heap_lt HI.out.blk) (by omega)]; exact HI.out.blk
        · rw [hB _ (heap_lt HI.out.m1) (by omega)]; exact HI.out.m1
        · rw [hB _ (heap_lt HI.out.m3) (by omega)]; exact HI.out.m3
        · exact ⟨ht6.os.trans HI.out.turn.os, ht6.tape.trans HI.out.turn.tape, ht6.output.trans HI.out.turn.output, by have := ht6.size; simp at this; omega, fun b hb hs => by
            rw [hB b (by omega) (by omega)]
            exact HI.out.turn.block b hb hs⟩
      have HN := Lib.hid hn
      go_roundg (GK - 1)
      case measure => omega
      case rel => exact ⟨d + 1, by omega, by omega, by go_num, HN.out⟩
    · have q1 : decide ((d : Int) ≤ 5) = false := decide_eq_false (by omega)
      go_wp2_with fail
      go_end0
      exact ⟨rfl, HI.out⟩

def NewPost (w : World) (e : Ending) (w' : World) : Prop :=
  ∃ g, e = .returned (pt g.k) ∧ g.k = w.heap.size ∧ Rep g KS.new w' ∧ Turn (fun _ => False) w w' ∧ ∀ k, k < w.heap.size → (g.ρ k).1 = 0

theorem new_rep {w0 w : World} {kb : Nat} (h : NewI kb w0 w) (hk : kb < w0.heap.size) : ∃ g, g.k = kb ∧ Rep g KS.new w ∧ ∀ k, k < kb → (g.ρ k).1 = 0 := by
  have hz := h.turn.size
  have h1 := heap_lt h.m1
  have h3 := heap_lt h.m3
  refine ⟨⟨kb, w0.heap.size, w0.heap.size + 1, w0.heap.size + 2, fun _ => 0, fun _ => 0, fun b => if b = kb then (1, 0) else if b = w0.heap.size then (1, 1) else if b = w0.heap.size + 2 then (1, 3) else (0, 0)⟩, rfl, ?_, fun k hk => ?_⟩
  · have et : ∀ tb : Nat → Nat, tmap 0 tb = fun _ => none := fun tb => by
      funext k
      exact tmap_out (by omega)
    exact { kb := ⟨.slice none 0 0, [], h.blk, SliceT.nil _ _ _ _ _, rfl⟩
            tk := if_pos rfl
            tmt := by dsimp only; rw [if_neg (by omega), if_pos rfl]
            tmp := by dsimp only; rw [if_neg (by omega), if_neg (by omega), if_pos rfl]
            fresh := fun k hk => by dsimp only; rw [if_neg (by omega), if_neg (by omega), if_neg (by omega)]
            tm := by show MapS w w0.heap.size (tmap 0 _); rw [et]; exact MapS.of_block h.m1
            pm := by show MapS w (w0.heap.size + 2) (tmap 0 _); rw [et]; exact MapS.of_block h.m3
            tt := fun i i1 i2 => absurd i2 (by show ¬ i ≤ 0; omega)
            tp := fun i i1 i2 => absurd i2 (by show ¬ i ≤ 0; omega)
            task := fun i i1 i2 => absurd i2 (by show ¬ i ≤ 0; omega)
            pack := fun i i1 i2 => absurd i2 (by show ¬ i ≤ 0; omega)
            qok := fun i i1 i2 => absurd i2 (by show ¬ i ≤ 0; omega) }
  · dsimp only
    rw [if_neg (by omega), if_neg (by omega), if_neg (by omega)]

set_option maxRecDepth 10000 in
theorem new_calls (w : World) : Calls Try.prog 4 #[] w (NewPost w) := by
  have hb := heap_alloc_new w (.cells zCells 43)
  have HR := Lib.hid (ready_new hb)
  clear hb
  go_enter Try.func4, Try.ntmps4
  go_wp2_with fail
  refine HR.out.mono ?_
  rintro e w1 ⟨rfl, hI⟩
  have HI := Lib.hid hI
  clear hI
  go_wp2_with fail
  go_ret
  obtain ⟨g, h1, h2, h3⟩ := new_rep HI.out (by simp)
  refine ⟨g, by rw [h1]; rfl, h1, h2, ⟨HI.out.turn.os, HI.out.turn.tape, HI.out.turn.output, by have := HI.out.turn.size; simp at this; omega, fun k hk _ => ?_⟩, h3⟩
  rw [HI.out.turn.block k (by simp; omega) (by omega)]
  exact heap_alloc_lt w _ k hk
end
end Go.Rnd
