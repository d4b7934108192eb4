/-
  cut, walked: a block is left so many words, and the rest becomes a free block behind it.
-/
import Derived.BigRegion
import Derived.Test.YtahfoejffibahaaQStoUsed
import Derived.Test.YtahfoejffibahaaQStoLink
namespace Go.Sto
open Go.Own Go.RowKit Go.Proofs

section
variable {g : Ghost} {S : St} {w : World}

def CutPost (g : Ghost) (A : List Nd) (x : Nd) (B : List Nd) (m : Nat) (w : World) (e : Ending) (w' : World) : Prop :=
  e = .returned (.tuple #[]) ∧ ∃ g' R, bs R = rest x.b.size m ∧ g'.L = A ++ ⟨x.p, x.v, ⟨m, x.b.used, x.b.ws⟩⟩ :: (R ++ B) ∧ Rep g' (bs g'.L) w' ∧ Step g g' w w'

theorem cut_post {A B : List Nd} {x : Nd} {w' : World} (h : Rep g S w) (e : g.L = A ++ x :: B) {m : Nat} (hm : m < x.b.size) (hko : KeepsOthers w w') (hz : w'.heap.size = w.heap.size + 1)
    (ht : Turn (fun k => k = x.p ∨ hd B none = some k) w w')
    (hx : w'.heap[x.p]? = some (.cells (ndCells (sz (bs A)) ⟨x.p, x.v, ⟨m, x.b.used, x.b.ws⟩⟩ (some w.heap.size) (lst A none)) 87 (0, 0)))
    (hr : w'.heap[w.heap.size]? = some (.cells #[.int .i64 ((sz (bs A) : Int) + m), .int .i64 ((x.b.size : Int) - m), .bool false, .slice none 0 0, ptr (hd B none), .pointer (some ⟨x.p, 0, none⟩)] 87 (0, 0)))
    (hy : ∀ y B', B = y :: B' → w'.heap[y.p]? = some (.cells (ndCells (sz (bs A) + x.b.size) y (hd B' none) (some w.heap.size)) 87 (0, 0))) :
    ∃ g' R, bs R = rest x.b.size m ∧ g'.L = A ++ ⟨x.p, x.v, ⟨m, x.b.used, x.b.ws⟩⟩ :: (R ++ B) ∧ Rep g' (bs g'.L) w' ∧ Step g g' w w' := by
  obtain ⟨g', e1, r1, s1⟩ := h.cut e m (by omega) hko hz ht hx (by
    rw [hr]; unfold ndCells hole
    have e1 : ((sz (bs A) + m : Nat) : Int) = (sz (bs A) : Int) + m := by omega
    have e2 : ((x.b.size - m : Nat) : Int) = (x.b.size : Int) - m := by omega
    rw [e1]; simp only [e2]; rfl) hy
  exact ⟨g', [⟨w.heap.size, .slice none 0 0, hole (x.b.size - m)⟩], by simp [rest, show ¬ x.b.size = m from by omega], by rw [e1]; rfl, r1, s1⟩

theorem cut_same {A B : List Nd} {x : Nd} (h : Rep g S w) (e : g.L = A ++ x :: B) {p : Nat} (hp : x.p = p) {m : Nat} (hm : x.b.size = m) :
    Calls Try.prog 47 #[.pointer (some ⟨p, 0, none⟩), .int .i64 m] w (CutPost g A x B m w) := by
  subst hp
  obtain ⟨c0, c1, -⟩ := nd_cells (h.mid e)
  rw [hm] at c1
  have HM := Lib.hid hm
  have HE := Lib.hid e
  clear hm e
  go_enter Try.func47, Try.ntmps47
  go_wp2
  refine bodyPost_ret (results_none rfl _ _ _) rfl ?_
  refine ⟨rfl, g, [], by simp [rest, HM.out], ?_, h.map ▸ h, Step.refl _ _⟩
  have := HM.out
  subst this
  exact HE.out

set_option maxRecDepth 10000 in
set_option maxHeartbeats 1000000 in
theorem cut_last {A : List Nd} {x : Nd} (h : Rep g S w) (e : g.L = A ++ x :: []) (hsz : sz S ≤ 32000) {p : Nat} (hp : x.p = p) {m : Nat} (hm : m < x.b.size) :
    Calls Try.prog 47 #[.pointer (some ⟨p, 0, none⟩), .int .i64 m] w (CutPost g A x [] m w) := by
  subst hp
  have hsz2 : sz (bs A) + x.b.size ≤ 32000 := by rw [h.map, e, bs_append, sz_append] at hsz; simp [sz] at hsz; omega
  obtain ⟨c0, c1, c2, c3, c4, c5, fz⟩ := nd_cells (h.mid e)
  simp only [hd, ptr_none] at c4
  have hb : (((x.b.size : Nat) : Int) == (m : Int)) = false := by simp; omega
  have hw1 : IntKind.i64.wrap (((sz (bs A) : Nat) : Int) + m) = (sz (bs A) : Int) + m := IntWalk.i64_in _ (by omega)
  have hw2 : IntKind.i64.wrap (((x.b.size : Nat) : Int) - m) = (x.b.size : Int) - m := IntWalk.i64_in _ (by omega)
  have hlt : x.p < w.heap.size := h.plt (by rw [e]; simp)
  have HE := Lib.hid e
  have HM := Lib.hid hm
  obtain ⟨q5, hq5⟩ : ∃ q, ptr (lst A none) = q := ⟨_, rfl⟩
  rw [hq5] at c5
  have HQ := Lib.hid hq5
  clear e hm hsz hsz2 hq5
  go_enter Try.func47, Try.ntmps47
  go_wp2
  go_region
  go_wp2
  go_end0
  have hx := h.mid HE.out
  refine ⟨rfl, cut_post h HE.out HM.out ((((KeepsOthers.setCell _ _ _).trans (KeepsOthers.setCell _ _ _)).trans (KeepsOthers.alloc _ _)).trans (KeepsOthers.drew _)) (by simp) ?_ ?_ ?_ (fun y B' e => by cases e)⟩
  · exact ((((Turn.refl _ w).setCell (fun _ => .inl rfl) _).setCell (fun _ => .inl rfl) _).alloc _).drew
  · show (World.alloc _ _).heap[x.p]? = _
    rw [heap_alloc_lt _ _ _ (by simpa using hlt), heap_setCell_self _ (heap_setCell_self _ hx)]
    rfl
  · show (World.alloc _ _).heap[_]? = _
    have := World.alloc_heap_new ((w.setCell ⟨x.p, 4, none⟩ (.pointer (some ⟨w.heap.size, 0, none⟩))).setCell ⟨x.p, 1, none⟩ (.int .i64 m)) (.cells #[.int .i64 ((sz (bs A) : Int) + m), .int .i64 ((x.b.size : Int) - m), .bool false, .slice none 0 0, .pointer none, .pointer (some ⟨x.p, 0, none⟩)] 87 (0, 0))
    simp only [World.size_setCell] at this
    exact this

set_option maxRecDepth 10000 in
set_option maxHeartbeats 1000000 in
theorem cut_mid {A B : List Nd} {x y : Nd} (h : Rep g S w) (e : g.L = A ++ x :: y :: B) (hsz : sz S ≤ 32000) {p : Nat} (hp : x.p = p) {m : Nat} (hm : m < x.b.size) :
    Calls Try.prog 47 #[.pointer (some ⟨p, 0, none⟩), .int .i64 m] w (CutPost g A x (y :: B) m w) := by
  subst hp
  have hsz2 : sz (bs A) + x.b.size ≤ 32000 := by rw [h.map, e, bs_append, sz_append] at hsz; simp [sz] at hsz; omega
  obtain ⟨c0, c1, c2, c3, c4, c5, fz⟩ := nd_cells (h.mid e)
  have e2 : g.L = (A ++ [x]) ++ y :: B := by rw [e]; simp
  obtain ⟨-, -, -, -, -, d5, fy⟩ := nd_cells (h.mid e2)
  have hne : y.p ≠ x.p := (ne_of_nodup (e ▸ h.nodup)).2 y (by simp)
  have hne' : x.p ≠ y.p := fun e => hne e.symm
  simp only [hd, ptr_some] at c4
  rw [lst_append] at d5
  simp only [lst, ptr_some] at d5
  have hb : (((x.b.size : Nat) : Int) == (m : Int)) = false := by simp; omega
  have hw1 : IntKind.i64.wrap (((sz (bs A) : Nat) : Int) + m) = (sz (bs A) : Int) + m := IntWalk.i64_in _ (by omega)
  have hw2 : IntKind.i64.wrap (((x.b.size : Nat) : Int) - m) = (x.b.size : Int) - m := IntWalk.i64_in _ (by omega)
  have hlt : x.p < w.heap.size := h.plt (by rw [e]; simp)
  have hlty : y.p < w.heap.size := h.plt (by rw [e]; simp)
  have HE := Lib.hid e
  have HE2 := Lib.hid e2
  have HM := Lib.hid hm
  obtain ⟨q5, hq5⟩ : ∃ q, ptr (lst A none) = q := ⟨_, rfl⟩
  rw [hq5] at c5
  have HQ := Lib.hid hq5
  clear e hm hsz hsz2 hq5 e2
  go_enter Try.func47, Try.ntmps47
  go_wp2
  go_region
  go_wp2
  go_end0
  have hx := h.mid HE.out
  have hY := h.mid HE2.out
  have hx1 : (w.setCell ⟨y.p, 5, none⟩ (.pointer (some ⟨w.heap.size, 0, none⟩))).heap[x.p]? = _ := (heap_setCell_ne _ hne').trans hx
  have hy1 := heap_setCell_self (i := 5) (.pointer (some ⟨w.heap.size, 0, none⟩)) hY
  refine ⟨rfl, cut_post h HE.out HM.out (((((KeepsOthers.setCell _ _ _).trans (KeepsOthers.setCell _ _ _)).trans (KeepsOthers.setCell _ _ _)).trans (KeepsOthers.alloc _ _)).trans (KeepsOthers.drew _)) (by simp) ?_ ?_ ?_ (fun y' B' e => ?_)⟩
  · exact (((((Turn.refl _ w).setCell (p := ⟨y.p, 5, none⟩) (fun _ => .inr rfl) _).setCell (fun _ => .inl rfl) _).setCell (fun _ => .inl rfl) _).alloc _).drew
  · show (World.alloc _ _).heap[x.p]? = _
    rw [heap_alloc_lt _ _ _ (by simpa using hlt), heap_setCell_self _ (heap_setCell_self _ hx1)]
    rfl
  · show (World.alloc _ _).heap[_]? = _
    have := World.alloc_heap_new (((w.setCell ⟨y.p, 5, none⟩ (.pointer (some ⟨w.heap.size, 0, none⟩))).setCell ⟨x.p, 4, none⟩ (.pointer (some ⟨w.heap.size, 0, none⟩))).setCell ⟨x.p, 1, none⟩ (.int .i64 m)) (.cells #[.int .i64 ((sz (bs A) : Int) + m), .int .i64 ((x.b.size : Int) - m), .bool false, .slice none 0 0, .pointer (some ⟨y.p, 0, none⟩), .pointer (some ⟨x.p, 0, none⟩)] 87 (0, 0))
    simp only [World.size_setCell] at this
    exact this
  · cases e
    show (World.alloc _ _).heap[y.p]? = _
    rw [heap_alloc_lt _ _ _ (by simpa using hlty), heap_setCell_ne _ (by exact hne), heap_setCell_ne _ (by exact hne), hy1, bs_append, sz_append]
    simp [ndCells, sz]

theorem cut_calls {A B : List Nd} {x : Nd} (h : Rep g S w) (e : g.L = A ++ x :: B) (hsz : sz S ≤ 32000) {p : Nat} (hp : x.p = p) {m : Nat} (hm : m ≤ x.b.size) :
    Calls Try.prog 47 #[.pointer (some ⟨p, 0, none⟩), .int .i64 m] w (CutPost g A x B m w) := by
  rcases Nat.lt_or_eq_of_le hm with hm | hm
  · cases B with
    | nil => exact cut_last h e hsz hp hm
    | cons y B => exact cut_mid h e hsz hp hm
  · exact cut_same h e hp hm.symm
end
end Go.Sto
