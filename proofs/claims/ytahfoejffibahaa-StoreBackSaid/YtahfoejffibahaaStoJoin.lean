/-
  join and free, walked: a block is joined with the one behind it; a block is given back.
-/
import Derived.BigRegion
import Derived.Test.YtahfoejffibahaaStoUsed
import Derived.Test.YtahfoejffibahaaStoLink
namespace Go.Sto
open Go.Own Go.RowKit Go.Proofs

section
variable {g : Ghost} {S : St} {w : World}

def JoinPost (g : Ghost) (A : List Nd) (x y : Nd) (B : List Nd) (w : World) (e : Ending) (w' : World) : Prop :=
  e = .returned (.tuple #[]) ∧ ∃ g', g'.L = A ++ ⟨x.p, x.v, ⟨x.b.size + y.b.size, x.b.used, x.b.ws⟩⟩ :: B ∧ Rep g' (bs g'.L) w' ∧ Step g g' w w'

set_option maxRecDepth 10000 in
set_option maxHeartbeats 1000000 in
theorem join_last {A : List Nd} {x y : Nd} (h : Rep g S w) (e : g.L = A ++ x :: y :: []) (hsz : sz S ≤ 32000) {p : Nat} (hp : x.p = p) :
    Calls Try.prog 50 #[.pointer (some ⟨p, 0, none⟩)] w (JoinPost g A x y [] w) := by
  subst hp
  have hsz2 : sz (bs A) + x.b.size + y.b.size ≤ 32000 := by rw [h.map, e, bs_append, sz_append] at hsz; simp [sz] at hsz; omega
  obtain ⟨c0, c1, c2, c3, c4, c5, fz⟩ := nd_cells (h.mid e)
  have e2 : g.L = (A ++ [x]) ++ y :: [] := by rw [e]; simp
  obtain ⟨-, d1, -, -, d4, -, -⟩ := nd_cells (h.mid e2)
  have hne : y.p ≠ x.p := (ne_of_nodup (e ▸ h.nodup)).2 y (by simp)
  have hne' : x.p ≠ y.p := fun e => hne e.symm
  simp only [hd, ptr_some] at c4
  simp only [hd, ptr_none] at d4
  have hw1 : IntKind.i64.wrap (((x.b.size : Nat) : Int) + y.b.size) = (x.b.size : Int) + y.b.size := IntWalk.i64_in _ (by omega)
  have HE := Lib.hid e
  obtain ⟨q5, hq5⟩ : ∃ q, ptr (lst A none) = q := ⟨_, rfl⟩
  rw [hq5] at c5
  have HQ := Lib.hid hq5
  clear e hsz hsz2 hq5 e2
  go_enter Try.func50, Try.ntmps50
  go_wp2
  go_region
  go_wp2
  go_end0
  have hx := h.mid HE.out
  refine ⟨rfl, h.join HE.out (((KeepsOthers.setCell _ _ _).trans (KeepsOthers.setCell _ _ _)).trans (KeepsOthers.drew _)) (by simp) ?_ ?_ (fun y B' e => by cases e)⟩
  · exact (((Turn.refl _ w).setCell (fun _ => .inl rfl) _).setCell (fun _ => .inl rfl) _).drew
  · show (World.setCell _ _ _).heap[x.p]? = _
    rw [heap_setCell_self _ (heap_setCell_self _ hx)]
    simp [ndCells, hd]

set_option maxRecDepth 10000 in
set_option maxHeartbeats 1000000 in
theorem join_mid {A B : List Nd} {x y z : Nd} (h : Rep g S w) (e : g.L = A ++ x :: y :: z :: B) (hsz : sz S ≤ 32000) {p : Nat} (hp : x.p = p) :
    Calls Try.prog 50 #[.pointer (some ⟨p, 0, none⟩)] w (JoinPost g A x y (z :: B) w) := by
  subst hp
  have hsz2 : sz (bs A) + x.b.size + y.b.size ≤ 32000 := by rw [h.map, e, bs_append, sz_append] at hsz; simp [sz] at hsz; omega
  obtain ⟨c0, c1, c2, c3, c4, c5, fz⟩ := nd_cells (h.mid e)
  have e2 : g.L = (A ++ [x]) ++ y :: z :: B := by rw [e]; simp
  have e3 : g.L = (A ++ [x, y]) ++ z :: B := by rw [e]; simp
  obtain ⟨-, d1, -, -, d4, -, -⟩ := nd_cells (h.mid e2)
  obtain ⟨-, -, -, -, -, z5, fzz⟩ := nd_cells (h.mid e3)
  have hn := h.nodup
  have hne : y.p ≠ x.p := (ne_of_nodup (e ▸ hn)).2 y (by simp)
  have hne' : x.p ≠ y.p := fun e => hne e.symm
  have hnz : z.p ≠ x.p := (ne_of_nodup (e ▸ hn)).2 z (by simp)
  have hnz' : x.p ≠ z.p := fun e => hnz e.symm
  have hny : z.p ≠ y.p := (ne_of_nodup (e2 ▸ hn)).2 z (by simp)
  have hny' : y.p ≠ z.p := fun e => hny e.symm
  simp only [hd, ptr_some] at c4 d4
  rw [lst_append] at z5
  simp only [lst, ptr_some] at z5
  have hw1 : IntKind.i64.wrap (((x.b.size : Nat) : Int) + y.b.size) = (x.b.size : Int) + y.b.size := IntWalk.i64_in _ (by omega)
  have HE := Lib.hid e
  have HE3 := Lib.hid e3
  obtain ⟨q5, hq5⟩ : ∃ q, ptr (lst A none) = q := ⟨_, rfl⟩
  rw [hq5] at c5
  have HQ := Lib.hid hq5
  clear e hsz hsz2 hq5 e2 e3 hn
  go_enter Try.func50, Try.ntmps50
  go_wp2
  go_region
  go_wp2
  go_end0
  have hx := h.mid HE.out
  have hz := h.mid HE3.out
  refine ⟨rfl, h.join HE.out ((((KeepsOthers.setCell _ _ _).trans (KeepsOthers.setCell _ _ _)).trans (KeepsOthers.setCell _ _ _)).trans (KeepsOthers.drew _)) (by simp) ?_ ?_ (fun y' B' e => ?_)⟩
  · exact ((((Turn.refl _ w).setCell (p := ⟨x.p, 1, none⟩) (fun _ => .inl rfl) _).setCell (fun _ => .inl rfl) _).setCell (fun _ => .inr rfl) _).drew
  · show (World.setCell _ _ _).heap[x.p]? = _
    rw [heap_setCell_ne _ (by exact hnz'), heap_setCell_self _ (heap_setCell_self _ hx)]
    simp [ndCells, hd]
  · cases e
    show (World.setCell _ _ _).heap[z.p]? = _
    rw [heap_setCell_self _ ((heap_setCell_ne _ (by exact hnz)).trans ((heap_setCell_ne _ (by exact hnz)).trans hz))]
    simp [ndCells, sz_append, sz, Nat.add_assoc]

theorem join_calls {A B : List Nd} {x y : Nd} (h : Rep g S w) (e : g.L = A ++ x :: y :: B) (hsz : sz S ≤ 32000) {p : Nat} (hp : x.p = p) :
    Calls Try.prog 50 #[.pointer (some ⟨p, 0, none⟩)] w (JoinPost g A x y B w) := by
  cases B with
  | nil => exact join_last h e hsz hp
  | cons z B => exact join_mid h e hsz hp
end
end Go.Sto
