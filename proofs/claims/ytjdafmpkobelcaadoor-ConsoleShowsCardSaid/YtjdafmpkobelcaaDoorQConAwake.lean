/-
  'awake', walked: the example of the chapter holds.
-/
import Derived.Test.YtjdafmpkobelcaaDoorQConRead
set_option linter.unusedVariables false

namespace Go.Con
open Go.Own Go.RowKit Go.Proofs

theorem awake_type : (CS.new.type [97, 98, 127, 99, 10]).2 = [(1, [97, 99, 10])] ∧ (CS.new.type [97, 98, 127, 99, 10]).1.screen = [97, 98, 8, 32, 8, 99, 10] := ⟨by rfl, by rfl⟩

/-- Whatever was there stands. -/
abbrev Old (w w' : World) : Prop := Turn (fun k => w.heap.size ≤ k) w w'

theorem Step.old {g g' : Ghost} {w w1 w2 : World} (ht : Turn (fun _ => False) w w1) (htag : ∀ k, k < w.heap.size → g.ρ k = (0, 0)) (h : Step g g' w1 w2) : Old w w2 := by
  have hs := ht.size
  refine ⟨h.turn.os.trans ht.os, h.turn.tape.trans ht.tape, h.turn.output.trans ht.output, Nat.le_trans hs h.turn.size, fun k hk hn => ?_⟩
  rw [h.turn.block k (by omega) (by rw [htag k hk]; simp)]
  exact ht.block k hk (fun hh => hh)

theorem BIn.made {g : Ghost} {S : CS} {w : World} (h : Rep g S w) (l : Bytes) (e : TypeId) : BIn g.ρ (w.alloc (.cells (bcells l).toArray e)) (some ⟨w.heap.size, 0, none⟩) l :=
  .inr ⟨w.heap.size, 0, rfl, h.fresh _ (Nat.le_refl _), by simp, fun i hi => by
    refine cell_at (heap_alloc_new w _) ?_
    simp [bcells, hi]⟩

set_option maxHeartbeats 1000000 in
theorem awake_calls (w : World) : Calls Tryd.prog 14 #[] w fun e w' => e = .returned (.bool true) ∧ Old w w' := by
  have ha := Lib.hid awake_type
  go_enter Tryd.func14, Tryd.ntmps14
  go_wp2_with (first
    | (go_at_call 8; refine (new_calls w).mono ?_; rintro e1 w1 ⟨g, rfl, r1, t1, htag, hgc⟩)
    | (go_at_call 15; refine (type_calls (g := g) (some ⟨w1.heap.size, 0, none⟩) 5 [97, 98, 127, 99, 10] rfl (r1.alloc _) CS.new_ok (CS.new_small) (by simp) (by simp) (BIn.made r1 [97, 98, 127, 99, 10] 5)).mono ?_
       rintro e2 w2 ⟨v2, g2, rfl, r2, s2, o2, n2⟩
       rw [ha.out.1] at o2
       have o2' : SliceAt w2 41 2 v2 [.int .i64 1, .string ⟨#[97, 99, 10]⟩] := o2
       obtain ⟨qa, qn, qc, rfl, ql, -⟩ := o2'.form
       obtain rfl : qn = 1 := by (simp at ql; omega)
       obtain ⟨qb, qo, rfl⟩ := o2'.addr (by decide)
       have l0 := o2'.cells 0 _ rfl
       have l1 := o2'.cells 1 _ rfl
       rw [Nat.add_zero] at l0
       have hs2 : (CS.new.type [97, 98, 127, 99, 10]).1.screen = [97, 98, 8, 32, 8, 99, 10] := ha.out.2
       have HS2 := Lib.hid hs2
       clear ql o2 hs2)
    | (go_at_call 11; refine (screen_calls s2.c r2 (by rw [HS2.out]; simp)).mono ?_
       rintro e3 w3 ⟨v3, rfl, o3, r3, s3, n3⟩
       rw [HS2.out] at o3
       obtain ⟨pa, pn, pc, rfl, pl, -⟩ := o3.form
       have hcv := run_to_string (P := Tryd.prog) Tryd.underlying26 Tryd.underlying5 Tryd.underlying9 o3))
  go_ret
  exact ⟨rfl, (((Step.refl g w1).alloc _).trans (s2.trans s3)).old t1 htag⟩
end Go.Con
