/-
  free, walked: a block is made free and joined with free neighbours. Printed by gen/genfree.py.
-/
import Derived.Test.YtahfoejffibahaaQStoUsed
set_option linter.unusedVariables false

namespace Go.Sto
open Go.Own Go.RowKit Go.Proofs

/-- What lies ahead of a block, and the block. -/
def backAdd (A R : St) : St :=
  match A.reverse with
  | [] => R
  | l :: A' => A'.reverse ++ add l R
theorem backAdd_nil (R : St) : backAdd [] R = R := rfl
theorem backAdd_snoc (A : St) (l : Blk) (R : St) : backAdd (A ++ [l]) R = A ++ add l R := by simp [backAdd]

section
variable {g : Ghost} {S : St} {w : World}

def FreePost (g : Ghost) (A : List Nd) (x : Nd) (B : List Nd) (w : World) (e : Ending) (w' : World) : Prop :=
  e = .returned (.tuple #[]) ∧ ∃ g', bs g'.L = backAdd (bs A) (add (hole x.b.size) (bs B)) ∧ Rep g' (bs g'.L) w' ∧ Step g g' w w'

/-- The block is free, and not yet joined. -/
theorem Rep.empty {A B : List Nd} {x : Nd} (h : Rep g S w) (e : g.L = A ++ x :: B) :
    ∃ g', g'.L = A ++ ⟨x.p, .slice none 0 0, hole x.b.size⟩ :: B ∧ Rep g' (bs g'.L) ((w.setCell ⟨x.p, 2, none⟩ (.bool false)).setCell ⟨x.p, 3, none⟩ (.slice none 0 0)) ∧
      Step g g' w ((w.setCell ⟨x.p, 2, none⟩ (.bool false)).setCell ⟨x.p, 3, none⟩ (.slice none 0 0)) := by
  refine h.refill e (hole x.b.size) rfl (.slice none 0 0) ((KeepsOthers.setCell _ _ _).trans (KeepsOthers.setCell _ _ _)) (((Turn.refl _ w).setCell (fun _ => .inl rfl) _).setCell (fun _ => .inl rfl) _) ?_ (SliceAt.nil _ _ _) (fun k hk => by simp [Value.ownBlock] at hk)
  rw [heap_setCell_self _ (heap_setCell_self _ (h.mid e))]
  rfl

theorem add_used {b c : Blk} {R : St} (h : c.used = true) : add b (c :: R) = b :: c :: R := by simp [add, h]
theorem add_used' {b : Blk} {R : St} (h : b.used = true) : add b R = b :: R := by cases R <;> simp [add, h]
theorem add_free {b c : Blk} {R : St} (h : b.used = false) (h' : c.used = false) : add b (c :: R) = hole (b.size + c.size) :: R := by simp [add, h, h']

set_option maxRecDepth 10000 in
set_option maxHeartbeats 1000000 in
theorem free_none_none {x : Nd}  (h : Rep g S w) (e : g.L = [] ++ x :: []) (hsz : sz S ≤ 32000) {p : Nat} (hp : x.p = p)  :
    Calls Try.prog 49 #[.pointer (some ⟨p, 0, none⟩)] w (FreePost g [] x [] w) := by
  subst hp
  obtain ⟨g1, e1, r1, s1⟩ := h.empty e
  have hs1 : sz (bs g1.L) ≤ 32000 := by rw [h.map, e, bs_append, sz_append] at hsz; rw [e1, bs_append, sz_append]; simpa [sz, hole] using hsz
  obtain ⟨c0, c1, c2, c3, c4, c5, fz⟩ := nd_cells (h.mid e)
  have hn := h.nodup
  simp only [hd, ptr_none] at c4
  simp only [lst, ptr_none] at c5
  have H1 := Lib.hid (And.intro e1 (And.intro r1 (And.intro s1 hs1)))
  have HE := Lib.hid e
  clear e1 r1 s1 hs1 e hsz hn
  go_enter Try.func49, Try.ntmps49
  go_wp2
  go_end0
  refine ⟨rfl, g1, ?_, H1.out.2.1, H1.out.2.2.1⟩
  rw [H1.out.1]
  simp only [bs_append, bs_cons, bs_nil]
  rw [show add (hole x.b.size) [] = [hole x.b.size] from rfl]
  rw [backAdd_nil]
  rfl

set_option maxRecDepth 10000 in
set_option maxHeartbeats 1000000 in
theorem free_none_used {x : Nd} {D : List Nd} {l : Nd} (h : Rep g S w) (e : g.L = (D ++ [l]) ++ x :: []) (hsz : sz S ≤ 32000) {p : Nat} (hp : x.p = p) (hl : l.b.used = true) :
    Calls Try.prog 49 #[.pointer (some ⟨p, 0, none⟩)] w (FreePost g (D ++ [l]) x [] w) := by
  subst hp
  obtain ⟨g1, e1, r1, s1⟩ := h.empty e
  have hs1 : sz (bs g1.L) ≤ 32000 := by rw [h.map, e, bs_append, sz_append] at hsz; rw [e1, bs_append, sz_append]; simpa [sz, hole] using hsz
  obtain ⟨c0, c1, c2, c3, c4, c5, fz⟩ := nd_cells (h.mid e)
  have hn := h.nodup
  simp only [hd, ptr_none] at c4
  have e4 : g.L = D ++ l :: x :: [] := by rw [e]; simp
  obtain ⟨-, -, l2, -⟩ := nd_cells (h.mid e4)
  rw [hl] at l2
  have hnl : l.p ≠ x.p := (ne_of_nodup (e ▸ hn)).1 l (by simp)
  have hnl' : x.p ≠ l.p := fun e => hnl e.symm
  rw [lst_append] at c5
  simp only [lst, ptr_some] at c5
  have H1 := Lib.hid (And.intro e1 (And.intro r1 (And.intro s1 hs1)))
  have HE := Lib.hid e
  have HH := Lib.hid (And.intro hl trivial)
  clear e1 r1 s1 hs1 e hsz hn e4 hl
  go_enter Try.func49, Try.ntmps49
  go_wp2
  go_end0
  refine ⟨rfl, g1, ?_, H1.out.2.1, H1.out.2.2.1⟩
  rw [H1.out.1]
  simp only [bs_append, bs_cons, bs_nil]
  rw [show add (hole x.b.size) [] = [hole x.b.size] from rfl]
  rw [backAdd_snoc, add_used' HH.out.1]
  simp [hole]

set_option maxRecDepth 10000 in
set_option maxHeartbeats 1000000 in
theorem free_none_free {x : Nd} {D : List Nd} {l : Nd} (h : Rep g S w) (e : g.L = (D ++ [l]) ++ x :: []) (hsz : sz S ≤ 32000) {p : Nat} (hp : x.p = p) (hl : l.b.used = false) (hlb : l.b.ws = []) :
    Calls Try.prog 49 #[.pointer (some ⟨p, 0, none⟩)] w (FreePost g (D ++ [l]) x [] w) := by
  subst hp
  obtain ⟨g1, e1, r1, s1⟩ := h.empty e
  have hs1 : sz (bs g1.L) ≤ 32000 := by rw [h.map, e, bs_append, sz_append] at hsz; rw [e1, bs_append, sz_append]; simpa [sz, hole] using hsz
  obtain ⟨c0, c1, c2, c3, c4, c5, fz⟩ := nd_cells (h.mid e)
  have hn := h.nodup
  simp only [hd, ptr_none] at c4
  have e4 : g.L = D ++ l :: x :: [] := by rw [e]; simp
  obtain ⟨-, -, l2, -⟩ := nd_cells (h.mid e4)
  rw [hl] at l2
  have hnl : l.p ≠ x.p := (ne_of_nodup (e ▸ hn)).1 l (by simp)
  have hnl' : x.p ≠ l.p := fun e => hnl e.symm
  rw [lst_append] at c5
  simp only [lst, ptr_some] at c5
  have H1 := Lib.hid (And.intro e1 (And.intro r1 (And.intro s1 hs1)))
  have HE := Lib.hid e
  have HH := Lib.hid (And.intro hl (And.intro hlb trivial))
  clear e1 r1 s1 hs1 e hsz hn e4 hl hlb
  go_enter Try.func49, Try.ntmps49
  go_wp2_with (first
    | (go_at_call 50; refine (join_calls (x := l) (y := ⟨x.p, .slice none 0 0, hole x.b.size⟩) (A := D) (B := []) H1.out.2.1 (H1.out.1.trans (by simp [hole])) H1.out.2.2.2 rfl).mono ?_
       rintro e w3 ⟨rfl, g3, e3, r3, s3⟩
       have H3 := Lib.hid (And.intro e3 (And.intro r3 s3))
       clear e3 r3 s3))
  go_end0
  refine ⟨rfl, g3, ?_, H3.out.2.1, (H1.out.2.2.1.trans H3.out.2.2)⟩
  rw [H3.out.1]
  simp only [bs_append, bs_cons, bs_nil]
  rw [show add (hole x.b.size) [] = [hole x.b.size] from rfl]
  rw [backAdd_snoc, add_free HH.out.1 (by rfl)]
  have q1 := HH.out.1
  have q2 := HH.out.2.1
  simp [hole, q1, q2]

set_option maxRecDepth 10000 in
set_option maxHeartbeats 1000000 in
theorem free_used_none {x : Nd} {C : List Nd} {y : Nd} (h : Rep g S w) (e : g.L = [] ++ x :: (y :: C)) (hsz : sz S ≤ 32000) {p : Nat} (hp : x.p = p) (hy : y.b.used = true) :
    Calls Try.prog 49 #[.pointer (some ⟨p, 0, none⟩)] w (FreePost g [] x (y :: C) w) := by
  subst hp
  obtain ⟨g1, e1, r1, s1⟩ := h.empty e
  have hs1 : sz (bs g1.L) ≤ 32000 := by rw [h.map, e, bs_append, sz_append] at hsz; rw [e1, bs_append, sz_append]; simpa [sz, hole] using hsz
  obtain ⟨c0, c1, c2, c3, c4, c5, fz⟩ := nd_cells (h.mid e)
  have hn := h.nodup
  have e3 : g.L = ([] ++ [x]) ++ y :: C := by rw [e]; simp
  obtain ⟨-, -, d2, -⟩ := nd_cells (h.mid e3)
  rw [hy] at d2
  have hne : y.p ≠ x.p := (ne_of_nodup (e ▸ hn)).2 y (by simp)
  have hne' : x.p ≠ y.p := fun e => hne e.symm
  simp only [hd, ptr_some] at c4
  simp only [lst, ptr_none] at c5
  have H1 := Lib.hid (And.intro e1 (And.intro r1 (And.intro s1 hs1)))
  have HE := Lib.hid e
  have HH := Lib.hid (And.intro hy trivial)
  clear e1 r1 s1 hs1 e hsz hn e3 hy
  go_enter Try.func49, Try.ntmps49
  go_wp2
  go_end0
  refine ⟨rfl, g1, ?_, H1.out.2.1, H1.out.2.2.1⟩
  rw [H1.out.1]
  simp only [bs_append, bs_cons, bs_nil]
  rw [add_used HH.out.1]
  rw [backAdd_nil]
  simp [hole]

set_option maxRecDepth 10000 in
set_option maxHeartbeats 1000000 in
theorem free_used_used {x : Nd} {D : List Nd} {l : Nd} {C : List Nd} {y : Nd} (h : Rep g S w) (e : g.L = (D ++ [l]) ++ x :: (y :: C)) (hsz : sz S ≤ 32000) {p : Nat} (hp : x.p = p) (hy : y.b.used = true) (hl : l.b.used = true) :
    Calls Try.prog 49 #[.pointer (some ⟨p, 0, none⟩)] w (FreePost g (D ++ [l]) x (y :: C) w) := by
  subst hp
  obtain ⟨g1, e1, r1, s1⟩ := h.empty e
  have hs1 : sz (bs g1.L) ≤ 32000 := by rw [h.map, e, bs_append, sz_append] at hsz; rw [e1, bs_append, sz_append]; simpa [sz, hole] using hsz
  obtain ⟨c0, c1, c2, c3, c4, c5, fz⟩ := nd_cells (h.mid e)
  have hn := h.nodup
  have e3 : g.L = ((D ++ [l]) ++ [x]) ++ y :: C := by rw [e]; simp
  obtain ⟨-, -, d2, -⟩ := nd_cells (h.mid e3)
  rw [hy] at d2
  have hne : y.p ≠ x.p := (ne_of_nodup (e ▸ hn)).2 y (by simp)
  have hne' : x.p ≠ y.p := fun e => hne e.symm
  simp only [hd, ptr_some] at c4
  have e4 : g.L = D ++ l :: x :: (y :: C) := by rw [e]; simp
  obtain ⟨-, -, l2, -⟩ := nd_cells (h.mid e4)
  rw [hl] at l2
  have hnl : l.p ≠ x.p := (ne_of_nodup (e ▸ hn)).1 l (by simp)
  have hnl' : x.p ≠ l.p := fun e => hnl e.symm
  rw [lst_append] at c5
  simp only [lst, ptr_some] at c5
  have H1 := Lib.hid (And.intro e1 (And.intro r1 (And.intro s1 hs1)))
  have HE := Lib.hid e
  have HH := Lib.hid (And.intro hy (And.intro hl trivial))
  clear e1 r1 s1 hs1 e hsz hn e3 hy e4 hl
  go_enter Try.func49, Try.ntmps49
  go_wp2
  go_end0
  refine ⟨rfl, g1, ?_, H1.out.2.1, H1.out.2.2.1⟩
  rw [H1.out.1]
  simp only [bs_append, bs_cons, bs_nil]
  rw [add_used HH.out.1]
  rw [backAdd_snoc, add_used' HH.out.2.1]
  simp [hole]

set_option maxRecDepth 10000 in
set_option maxHeartbeats 1000000 in
theorem free_used_free {x : Nd} {D : List Nd} {l : Nd} {C : List Nd} {y : Nd} (h : Rep g S w) (e : g.L = (D ++ [l]) ++ x :: (y :: C)) (hsz : sz S ≤ 32000) {p : Nat} (hp : x.p = p) (hy : y.b.used = true) (hl : l.b.used = false) (hlb : l.b.ws = []) :
    Calls Try.prog 49 #[.pointer (some ⟨p, 0, none⟩)] w (FreePost g (D ++ [l]) x (y :: C) w) := by
  subst hp
  obtain ⟨g1, e1, r1, s1⟩ := h.empty e
  have hs1 : sz (bs g1.L) ≤ 32000 := by rw [h.map, e, bs_append, sz_append] at hsz; rw [e1, bs_append, sz_append]; simpa [sz, hole] using hsz
  obtain ⟨c0, c1, c2, c3, c4, c5, fz⟩ := nd_cells (h.mid e)
  have hn := h.nodup
  have e3 : g.L = ((D ++ [l]) ++ [x]) ++ y :: C := by rw [e]; simp
  obtain ⟨-, -, d2, -⟩ := nd_cells (h.mid e3)
  rw [hy] at d2
  have hne : y.p ≠ x.p := (ne_of_nodup (e ▸ hn)).2 y (by simp)
  have hne' : x.p ≠ y.p := fun e => hne e.symm
  simp only [hd, ptr_some] at c4
  have e4 : g.L = D ++ l :: x :: (y :: C) := by rw [e]; simp
  obtain ⟨-, -, l2, -⟩ := nd_cells (h.mid e4)
  rw [hl] at l2
  have hnl : l.p ≠ x.p := (ne_of_nodup (e ▸ hn)).1 l (by simp)
  have hnl' : x.p ≠ l.p := fun e => hnl e.symm
  rw [lst_append] at c5
  simp only [lst, ptr_some] at c5
  have H1 := Lib.hid (And.intro e1 (And.intro r1 (And.intro s1 hs1)))
  have HE := Lib.hid e
  have HH := Lib.hid (And.intro hy (And.intro hl (And.intro hlb trivial)))
  clear e1 r1 s1 hs1 e hsz hn e3 hy e4 hl hlb
  go_enter Try.func49, Try.ntmps49
  go_wp2_with (first
    | (go_at_call 50; refine (join_calls (x := l) (y := ⟨x.p, .slice none 0 0, hole x.b.size⟩) (A := D) (B := (y :: C)) H1.out.2.1 (H1.out.1.trans (by simp [hole])) H1.out.2.2.2 rfl).mono ?_
       rintro e w3 ⟨rfl, g3, e3, r3, s3⟩
       have H3 := Lib.hid (And.intro e3 (And.intro r3 s3))
       clear e3 r3 s3))
  go_end0
  refine ⟨rfl, g3, ?_, H3.out.2.1, (H1.out.2.2.1.trans H3.out.2.2)⟩
  rw [H3.out.1]
  simp only [bs_append, bs_cons, bs_nil]
  rw [add_used HH.out.1]
  rw [backAdd_snoc, add_free HH.out.2.1 (by rfl)]
  have q1 := HH.out.2.1
  have q2 := HH.out.2.2.1
  simp [hole, q1, q2]

set_option maxRecDepth 10000 in
set_option maxHeartbeats 1000000 in
theorem free_free_none {x : Nd} {C : List Nd} {y : Nd} (h : Rep g S w) (e : g.L = [] ++ x :: (y :: C)) (hsz : sz S ≤ 32000) {p : Nat} (hp : x.p = p) (hy : y.b.used = false) :
    Calls Try.prog 49 #[.pointer (some ⟨p, 0, none⟩)] w (FreePost g [] x (y :: C) w) := by
  subst hp
  obtain ⟨g1, e1, r1, s1⟩ := h.empty e
  have hs1 : sz (bs g1.L) ≤ 32000 := by rw [h.map, e, bs_append, sz_append] at hsz; rw [e1, bs_append, sz_append]; simpa [sz, hole] using hsz
  obtain ⟨c0, c1, c2, c3, c4, c5, fz⟩ := nd_cells (h.mid e)
  have hn := h.nodup
  have e3 : g.L = ([] ++ [x]) ++ y :: C := by rw [e]; simp
  obtain ⟨-, -, d2, -⟩ := nd_cells (h.mid e3)
  rw [hy] at d2
  have hne : y.p ≠ x.p := (ne_of_nodup (e ▸ hn)).2 y (by simp)
  have hne' : x.p ≠ y.p := fun e => hne e.symm
  simp only [hd, ptr_some] at c4
  simp only [lst, ptr_none] at c5
  have H1 := Lib.hid (And.intro e1 (And.intro r1 (And.intro s1 hs1)))
  have HE := Lib.hid e
  have G1 := H1
  have HH := Lib.hid (And.intro hy trivial)
  clear e1 r1 s1 hs1 e hsz hn e3 hy
  go_enter Try.func49, Try.ntmps49
  go_wp2_with (first
    | (go_at_call 50; refine (join_calls (x := ⟨x.p, .slice none 0 0, hole x.b.size⟩) (y := y) (A := []) (B := C) G1.out.2.1 G1.out.1 G1.out.2.2.2 rfl).mono ?_
       clear G1
       rintro e w2 ⟨rfl, g2, e2, r2, s2⟩
       obtain ⟨-, -, -, -, -, x5, -⟩ := nd_cells (r2.mid (A := []) e2)
       simp only [lst, ptr_none] at x5
       have H2 := Lib.hid (And.intro e2 (And.intro r2 s2))
       clear e2 r2 s2))
  go_end0
  refine ⟨rfl, g2, ?_, H2.out.2.1, (H1.out.2.2.1.trans H2.out.2.2)⟩
  rw [H2.out.1]
  simp only [bs_append, bs_cons, bs_nil]
  rw [add_free rfl HH.out.1]
  rw [backAdd_nil]
  simp [hole]

set_option maxRecDepth 10000 in
set_option maxHeartbeats 1000000 in
theorem free_free_used {x : Nd} {D : List Nd} {l : Nd} {C : List Nd} {y : Nd} (h : Rep g S w) (e : g.L = (D ++ [l]) ++ x :: (y :: C)) (hsz : sz S ≤ 32000) {p : Nat} (hp : x.p = p) (hy : y.b.used = false) (hl : l.b.used = true) :
    Calls Try.prog 49 #[.pointer (some ⟨p, 0, none⟩)] w (FreePost g (D ++ [l]) x (y :: C) w) := by
  subst hp
  obtain ⟨g1, e1, r1, s1⟩ := h.empty e
  have hs1 : sz (bs g1.L) ≤ 32000 := by rw [h.map, e, bs_append, sz_append] at hsz; rw [e1, bs_append, sz_append]; simpa [sz, hole] using hsz
  obtain ⟨c0, c1, c2, c3, c4, c5, fz⟩ := nd_cells (h.mid e)
  have hn := h.nodup
  have e3 : g.L = ((D ++ [l]) ++ [x]) ++ y :: C := by rw [e]; simp
  obtain ⟨-, -, d2, -⟩ := nd_cells (h.mid e3)
  rw [hy] at d2
  have hne : y.p ≠ x.p := (ne_of_nodup (e ▸ hn)).2 y (by simp)
  have hne' : x.p ≠ y.p := fun e => hne e.symm
  simp only [hd, ptr_some] at c4
  have e4 : g.L = D ++ l :: x :: (y :: C) := by rw [e]; simp
  obtain ⟨-, -, l2, -⟩ := nd_cells (h.mid e4)
  rw [hl] at l2
  have hnl : l.p ≠ x.p := (ne_of_nodup (e ▸ hn)).1 l (by simp)
  have hnl' : x.p ≠ l.p := fun e => hnl e.symm
  rw [lst_append] at c5
  simp only [lst, ptr_some] at c5
  have H1 := Lib.hid (And.intro e1 (And.intro r1 (And.intro s1 hs1)))
  have HE := Lib.hid e
  have G1 := H1
  have HH := Lib.hid (And.intro hy (And.intro hl trivial))
  clear e1 r1 s1 hs1 e hsz hn e3 hy e4 hl
  go_enter Try.func49, Try.ntmps49
  go_wp2_with (first
    | (go_at_call 50; refine (join_calls (x := ⟨x.p, .slice none 0 0, hole x.b.size⟩) (y := y) (A := (D ++ [l])) (B := C) G1.out.2.1 G1.out.1 G1.out.2.2.2 rfl).mono ?_
       clear G1
       rintro e w2 ⟨rfl, g2, e2, r2, s2⟩
       obtain ⟨-, -, -, -, -, x5, -⟩ := nd_cells (r2.mid (A := D ++ [l]) e2)
       rw [lst_append] at x5
       simp only [lst, ptr_some] at x5
       obtain ⟨-, -, k2, -⟩ := nd_cells (r2.mid (A := D) (x := l) (B := ⟨x.p, .slice none 0 0, ⟨x.b.size + y.b.size, false, []⟩⟩ :: C) (e2.trans (by simp [hole])))
       rw [HH.out.2.1] at k2
       have H2 := Lib.hid (And.intro e2 (And.intro r2 s2))
       clear e2 r2 s2))
  go_end0
  refine ⟨rfl, g2, ?_, H2.out.2.1, (H1.out.2.2.1.trans H2.out.2.2)⟩
  rw [H2.out.1]
  simp only [bs_append, bs_cons, bs_nil]
  rw [add_free rfl HH.out.1]
  rw [backAdd_snoc, add_used' HH.out.2.1]
  simp [hole]

set_option maxRecDepth 10000 in
set_option maxHeartbeats 1000000 in
theorem free_free_free {x : Nd} {D : List Nd} {l : Nd} {C : List Nd} {y : Nd} (h : Rep g S w) (e : g.L = (D ++ [l]) ++ x :: (y :: C)) (hsz : sz S ≤ 32000) {p : Nat} (hp : x.p = p) (hy : y.b.used = false) (hl : l.b.used = false) (hlb : l.b.ws = []) :
    Calls Try.prog 49 #[.pointer (some ⟨p, 0, none⟩)] w (FreePost g (D ++ [l]) x (y :: C) w) := by
  subst hp
  obtain ⟨g1, e1, r1, s1⟩ := h.empty e
  have hs1 : sz (bs g1.L) ≤ 32000 := by rw [h.map, e, bs_append, sz_append] at hsz; rw [e1, bs_append, sz_append]; simpa [sz, hole] using hsz
  obtain ⟨c0, c1, c2, c3, c4, c5, fz⟩ := nd_cells (h.mid e)
  have hn := h.nodup
  have e3 : g.L = ((D ++ [l]) ++ [x]) ++ y :: C := by rw [e]; simp
  obtain ⟨-, -, d2, -⟩ := nd_cells (h.mid e3)
  rw [hy] at d2
  have hne : y.p ≠ x.p := (ne_of_nodup (e ▸ hn)).2 y (by simp)
  have hne' : x.p ≠ y.p := fun e => hne e.symm
  simp only [hd, ptr_some] at c4
  have e4 : g.L = D ++ l :: x :: (y :: C) := by rw [e]; simp
  obtain ⟨-, -, l2, -⟩ := nd_cells (h.mid e4)
  rw [hl] at l2
  have hnl : l.p ≠ x.p := (ne_of_nodup (e ▸ hn)).1 l (by simp)
  have hnl' : x.p ≠ l.p := fun e => hnl e.symm
  rw [lst_append] at c5
  simp only [lst, ptr_some] at c5
  have H1 := Lib.hid (And.intro e1 (And.intro r1 (And.intro s1 hs1)))
  have HE := Lib.hid e
  have G1 := H1
  have HH := Lib.hid (And.intro hy (And.intro hl (And.intro hlb trivial)))
  clear e1 r1 s1 hs1 e hsz hn e3 hy e4 hl hlb
  go_enter Try.func49, Try.ntmps49
  go_wp2_with (first
    | (go_at_call 50; refine (join_calls (x := ⟨x.p, .slice none 0 0, hole x.b.size⟩) (y := y) (A := (D ++ [l])) (B := C) G1.out.2.1 G1.out.1 G1.out.2.2.2 rfl).mono ?_
       clear G1
       rintro e w2 ⟨rfl, g2, e2, r2, s2⟩
       obtain ⟨-, -, -, -, -, x5, -⟩ := nd_cells (r2.mid (A := D ++ [l]) e2)
       rw [lst_append] at x5
       simp only [lst, ptr_some] at x5
       obtain ⟨-, -, k2, -⟩ := nd_cells (r2.mid (A := D) (x := l) (B := ⟨x.p, .slice none 0 0, ⟨x.b.size + y.b.size, false, []⟩⟩ :: C) (e2.trans (by simp [hole])))
       rw [HH.out.2.1] at k2
       have H2 := Lib.hid (And.intro e2 (And.intro r2 s2))
       clear e2 r2 s2)
    | (go_at_call 50; refine (join_calls (x := l) (y := ⟨x.p, .slice none 0 0, ⟨x.b.size + y.b.size, false, []⟩⟩) (A := D) (B := C) H2.out.2.1 (H2.out.1.trans (by simp [hole])) (by rw [H2.out.1]; have q := H1.out.2.2.2; rw [H1.out.1] at q; simp [bs_append, sz_append, sz, hole] at q ⊢; omega) rfl).mono ?_
       rintro e w3 ⟨rfl, g3, e3, r3, s3⟩
       have H3 := Lib.hid (And.intro e3 (And.intro r3 s3))
       clear e3 r3 s3))
  go_end0
  refine ⟨rfl, g3, ?_, H3.out.2.1, ((H1.out.2.2.1.trans H2.out.2.2).trans H3.out.2.2)⟩
  rw [H3.out.1]
  simp only [bs_append, bs_cons, bs_nil]
  rw [add_free rfl HH.out.1]
  rw [backAdd_snoc, add_free HH.out.2.1 (by rfl)]
  have q1 := HH.out.2.1
  have q2 := HH.out.2.2.1
  simp [hole, q1, q2]

theorem free_calls {A B : List Nd} {x : Nd} (h : Rep g S w) (e : g.L = A ++ x :: B) (hsz : sz S ≤ 32000) (hbare : ∀ b ∈ S, b.used = false → b.ws = []) {p : Nat} (hp : x.p = p) :
    Calls Try.prog 49 #[.pointer (some ⟨p, 0, none⟩)] w (FreePost g A x B w) := by
  have hb : ∀ l ∈ g.L, l.b.used = false → l.b.ws = [] := fun l hl => hbare l.b (by rw [h.map]; exact List.mem_map_of_mem hl)
  rcases List.eq_nil_or_concat A with rfl | ⟨D, l, rfl⟩
  · cases B with
    | nil => exact free_none_none h e hsz hp
    | cons y C =>
      rcases hy : y.b.used with _ | _
      · exact free_free_none h e hsz hp hy
      · exact free_used_none h e hsz hp hy
  · rw [List.concat_eq_append] at *
    have hlL : l ∈ g.L := by rw [e]; simp
    rcases hl : l.b.used with _ | _
    · cases B with
      | nil => exact free_none_free h e hsz hp hl (hb l hlL hl)
      | cons y C =>
        rcases hy : y.b.used with _ | _
        · exact free_free_free h e hsz hp hy hl (hb l hlL hl)
        · exact free_used_free h e hsz hp hy hl (hb l hlL hl)
    · cases B with
      | nil => exact free_none_used h e hsz hp hl
      | cons y C =>
        rcases hy : y.b.used with _ | _
        · exact free_free_used h e hsz hp hy hl
        · exact free_used_used h e hsz hp hy hl
end
end Go.Sto
