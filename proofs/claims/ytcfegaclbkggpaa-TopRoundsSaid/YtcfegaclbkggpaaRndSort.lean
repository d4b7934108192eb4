/-
  The sort of the tasks: its closure, and what the row holds behind it.
-/
import Derived.Shelf.SlSortCmp.WholeK
import Derived.Ground.SlsfProg
import Derived.Test.YtcfegaclbkggpaaRndTR
namespace Go.Rnd
open Go.Own Go.RowKit Go.Proofs Go.Shelf Go.Sort

shelf_lay_g SlLaysF0.n6 Slsf 6 at Try 28 as Rnd.sortLay

def cmpT (x y : TR) : Int := cmpI x.i y.i

theorem ltT (x y : TR) : ltOf cmpT x y = decide (x.i < y.i) := by
  unfold ltOf cmpT cmpI
  by_cases h1 : x.i < y.i
  · simp [h1]
  · by_cases h2 : y.i < x.i <;> simp [h1, h2]

set_option maxHeartbeats 1000000 in
theorem closure_calls (x y : TR) (W : World) : Calls Try.prog 29 #[.agg (encT x).toArray, .agg (encT y).toArray] W fun e w' => e = .returned (.int .i64 (cmpT x y)) ∧ ∃ q os, w' = grow (W.drewN q) os := by
  have hcon := fun W' => compare_calls x.i y.i W'
  unfold cmpT
  generalize cmpI x.i y.i = r at hcon ⊢
  simp only [encT]
  go_enter Try.func29, Try.ntmps29
  go_wp2_with (go_at_call 30; refine (hcon _).mono ?_; rintro e w' ⟨rfl, rfl⟩)
  go_ret
  exact ⟨rfl, 0, _, by rw [alloc_eq_grow, alloc_eq_grow, grow_grow]; rfl⟩

theorem cmpLays (blk off size : Nat) (w : World) : CmpLays Try.prog 29 #[] encT 7 cmpT blk off size w :=
  fun _ _ _ _ x y => closure_calls x y _

theorem swoT : SWO (ltOf cmpT) where
  irrefl x := by rw [ltT]; simp
  trans x y z h1 h2 := by rw [ltT] at *; simp at *; omega
  ntrans x y z h1 h2 := by rw [ltT] at *; simp at *; omega

theorem sort_calls (blk off cap : Nat) (d : Array TR) (w : World) (hH : HoldsK encT 7 w blk off d) (hblk : blk < w.heap.size) (hsz : d.size < 1000) :
    Calls Try.prog 28 #[.slice (some ⟨blk, off, none⟩) d.size cap, .func (.func 29) #[] #[]] w fun e w' =>
      e = .returned (.tuple #[]) ∧ ∃ d' n os, PermIn 0 d.size d d' ∧ w' = sortWorldK encT 7 w blk off n d' os := by
  have eg : ∀ args w, (callFunc 29 args).run Try.prog w = .ok (.enter 29 args) w := enters_of Try.func29 (by kernel_rfl) rfl
  have h := AnyQ.slices_SortFunc Rnd.sortLay 7 Try.isAgg55 Try.sizeOf55 encT (fun _ => rfl) (fun x v hv => by simp [encT] at hv; rcases hv with rfl | rfl | rfl | rfl | rfl | rfl | rfl <;> rfl) cmpT swoT 29 #[] blk off cap d w eg (cmpLays _ _ _ _) hH hblk (by omega)
  refine h.mono ?_
  rintro e w' ⟨rfl, d', n, os, hp, -, hw⟩
  exact ⟨rfl, d', n, os, hp, hw⟩
end Go.Rnd
