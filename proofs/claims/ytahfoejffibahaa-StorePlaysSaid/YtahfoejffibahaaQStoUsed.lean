/-
  used, walked: the block in use that has an address.
-/
import Derived.BigRegion
import Derived.Test.YtahfoejffibahaaQStoWalk1
import Derived.Test.YtahfoejffibahaaQStoLink
set_option linter.unusedVariables false

namespace Go.Sto
open Go.Own Go.RowKit Go.Proofs Go.Shelf
attribute [local go_sem] Oper.semAt_some

theorem cell_of_box_l {W : World} {B : Nat} {v : Value} {t : TypeId} (h : W.heap[B]? = some (.cells #[v] t (0, 0))) : W.cell? ⟨B, 0, none⟩ = some v ∧ W.frozen? ⟨B, 0, none⟩ = false := by
  constructor <;> simp [World.cell?, World.frozen?, h]
theorem cell_new_l (W : World) (v : Value) (t : TypeId) : (W.alloc (.cells #[v] t)).cell? ⟨W.heap.size, 0, none⟩ = some v ∧ (W.alloc (.cells #[v] t)).frozen? ⟨W.heap.size, 0, none⟩ = false :=
  cell_of_box_l (World.alloc_heap_new W _)
theorem cell_alloc_l {W : World} {a : Addr} {v : Value} (o : Obj) (h : W.cell? a = some v) : (W.alloc o).cell? a = some v := cell_kept h (World.grownBy_alloc W o none) (fun r e => by cases e)
theorem frozen_alloc_l {W : World} {a : Addr} {v : Value} (o : Obj) (h : W.cell? a = some v) (hf : W.frozen? a = false) : (W.alloc o).frozen? a = false := (frozen_kept h (World.grownBy_alloc W o none) (fun r e => by cases e)).trans hf

theorem In.split {L : List Nd} (x : In L) : ∃ A B, L = A ++ x.1 :: B := List.append_of_mem x.2

/-- What a block's cells say below n₀. -/
theorem Rep.cells {g : Ghost} {S : St} {w W : World} (h : Rep g S w) (hB : Below w.heap.size w W) {A B : List Nd} {x : Nd} (e : g.L = A ++ x :: B) :
    W.heap[x.p]? = some (.cells (ndCells (sz (bs A)) x (hd B none) (lst A none)) 87 (0, 0)) := by
  rw [hB.block x.p (h.plt (by rw [e]; simp))]; exact h.mid e

/-- A block of the chain by what stands ahead of it. -/
theorem nd_unique {A A' B B' : List Nd} {x : Nd} (hn : ((A ++ x :: B).map Nd.p).Nodup) (e : A ++ x :: B = A' ++ x :: B') : A = A' ∧ B = B' := by
  have h1 := idx_of hn
  rw [e] at hn
  have h2 := idx_of hn
  rw [e] at h1
  have : A.length = A'.length := by rw [← h1, ← h2]
  have := List.append_inj e this
  exact ⟨this.1, by have := this.2; simpa using this⟩

def UsedPost (g : Ghost) (a : Int) (w : World) (e : Ending) (w' : World) : Prop :=
  Below w.heap.size w w' ∧
  ((e = .returned (.pointer none) ∧ ∀ A x B, g.L = A ++ x :: B → isAt a (sz (bs A)) x.b = false) ∨
   ∃ A x B, g.L = A ++ x :: B ∧ e = .returned (.pointer (some ⟨x.p, 0, none⟩)) ∧ isAt a (sz (bs A)) x.b = true ∧ ∀ A' y B', A = A' ++ y :: B' → isAt a (sz (bs A')) y.b = false)

set_option maxRecDepth 100000 in
set_option maxHeartbeats 2000000 in
theorem used_in (F : Fence) (n : Nat) (h4 : F.fn 48) (h5 : F.fn 46) (h6 : F.fn 71) (hro : F.round = none) (hn : 3 ≤ n) {g : Ghost} {S : St} {w : World} (h : Rep g S w) (hsz : sz S ≤ 32000) {s : Nat} (hs : g.s = s) (a : Int) :
    CallsIn F n Try.prog 48 #[.pointer (some ⟨s, 0, none⟩), .int .i64 a] w (UsedPost g a w) := by
  subst hs
  have h1 : 1 ≤ n := by omega
  have hL := h.isL
  refine callsIn_of_wp_marks Try.func48 rfl h4 ?_ hro
  simp only [Try.ntmps48, List.size_toArray, List.length_cons, List.length_nil, Nat.reduceAdd, Nat.reduceSub, Array.replicate_succ, Array.replicate_zero, List.push_toArray, List.append_toArray, List.nil_append, List.cons_append]
  gi_wp2_with (gi_at_call 46; refine (all_in F (n - 1) h5 hro _ _).mono ?_; rintro e w' ⟨rfl, rfl⟩)
  have c0 := cell_new_l w (.int .i64 a) 3
  have c1 := cell_new_l (w.alloc (.cells #[.int .i64 a] 3)) (.pointer none) 85
  have c2 := cell_new_l ((w.alloc (.cells #[.int .i64 a] 3)).alloc (.cells #[.pointer none] 85)) (.pointer (some ⟨g.s, 0, none⟩)) 33
  simp only [World.size_alloc] at c1 c2
  have hB0 : Below w.heap.size w (((w.alloc (.cells #[.int .i64 a] 3)).alloc (.cells #[.pointer none] 85)).alloc (.cells #[.pointer (some ⟨g.s, 0, none⟩)] 33)) := (((Below.refl _ w).alloc (Nat.le_refl _) _).alloc (by simp) _).alloc (by simp; omega) _
  refine wpIn_rangeFunc_ownF hro h1 (gf := 71) (lb := #[.pointer (some ⟨w.heap.size + 1 + 1, 0, none⟩)]) rfl h6 (enters_of Try.func71 (by kernel_rfl) rfl)
    (all_stops F (n - 1) h6 hro (by omega) (w.heap.size + 1 + 1) w.heap.size g.s g.L _ (by simp) (by simp; omega) c2.1 (hL.below hB0)) belowK_t (belowK_b (by simp; omega)) (Below.refl _ _) (fun _ => rfl)
    (fun pre W => ((∀ y ∈ pre, ∀ A B, g.L = A ++ y.1 :: B → isAt a (sz (bs A)) y.1.b = false) ∧ W.cell? ⟨w.heap.size, 0, none⟩ = some (.int .i64 a) ∧ W.cell? ⟨w.heap.size + 1, 0, none⟩ = some (.pointer none) ∧ W.frozen? ⟨w.heap.size + 1, 0, none⟩ = false) ∧ Below w.heap.size w W)
    (fun c pre W => ((∃ (pre' : List (In g.L)) (x : In g.L) (A B : List Nd), c = .ret ∧ pre = pre' ++ [x] ∧ g.L = A ++ x.1 :: B ∧ isAt a (sz (bs A)) x.1.b = true ∧ (∀ y ∈ pre', ∀ A B, g.L = A ++ y.1 :: B → isAt a (sz (bs A)) y.1.b = false) ∧ W.cell? ⟨w.heap.size + 1, 0, none⟩ = some (.pointer (some ⟨x.1.p, 0, none⟩)))) ∧ Below w.heap.size w W)
    (OwnFrom.and (Own.from (fun s A B row hs hg hr => ⟨hs.1, cell_kept hs.2.1 hg hr, cell_kept hs.2.2.1 hg hr, (frozen_kept hs.2.2.1 hg hr).trans hs.2.2.2⟩) _) (ownFrom_below (Nat.le_refl _) (by simp; omega)))
    (fun c => OwnFrom.and (Own.from (fun s A B row hs hg hr => by obtain ⟨p', x, A, B, q1, q2, q3, q4, q5, q6⟩ := hs; exact ⟨p', x, A, B, q1, q2, q3, q4, q5, cell_kept q6 hg hr⟩) _) (ownFrom_below (Nat.le_refl _) (by simp; omega)))
    ⟨⟨by simp, cell_alloc_l _ (cell_alloc_l _ c0.1), cell_alloc_l _ c1.1, frozen_alloc_l _ c1.1 c1.2⟩, hB0⟩
    (fun x => { tmps := #[.pointer (some ⟨g.s, 0, none⟩), .int .i64 a, undef, .pointer (some ⟨w.heap.size, 0, none⟩), .pointer (some ⟨w.heap.size + 1, 0, none⟩), .pointer (some ⟨x.1.p, 0, none⟩), .pointer (some ⟨g.s, 0, none⟩), .func (.func 71) #[] #[.pointer (some ⟨w.heap.size + 1 + 1, 0, none⟩)], .pointer (some ⟨x.1.p, 0, none⟩), undef, undef, undef, undef, undef, undef, undef, undef, undef, undef, undef, undef, undef, undef], defers := [] }) ?assign ?body ?done ?stop
  case assign =>
    intro l x W K hK
    gi_wp2
    exact hK
  case body =>
    rintro l pre x W ⟨⟨hp, hcw, hcr, hfr⟩, hB⟩ _
    obtain ⟨A, B, hAB⟩ := x.split
    obtain ⟨d0, -, d2, -⟩ := nd_cells (h.cells hB hAB)
    have hsm : sz (bs A) ≤ 32000 := by rw [h.map, hAB, bs_append, sz_append] at hsz; omega
    have hw1 : IntKind.i64.wrap (((sz (bs A) : Nat) : Int) + 1) = (sz (bs A) : Int) + 1 := IntWalk.i64_in _ (by omega)
    have hno : isAt a (sz (bs A)) x.1.b = false → ∀ y ∈ pre ++ [x], ∀ A B, g.L = A ++ y.1 :: B → isAt a (sz (bs A)) y.1.b = false := fun hf y hy A' B' e => by
      rcases List.mem_append.1 hy with hy | hy
      · exact hp y hy A' B' e
      · obtain rfl : y = x := by simpa using hy
        have hn := h.nodup
        rw [hAB] at hn
        rw [← (nd_unique hn (hAB.symm.trans e)).1]; exact hf
    have HNO := Lib.hid hno
    have HAB := Lib.hid hAB
    clear hno hAB hsm
    rcases hu : x.1.b.used with _ | _
    · rw [hu] at d2
      have HU := Lib.hid hu
      clear hu
      gi_wp2
      gi_region
      gi_wp2
      all_goals exact ⟨KeepsOthers.drew _, (Below.refl _ _).drew, ⟨HNO.out (by simp [isAt, HU.out]), hcw, hcr, hfr⟩, hB.drew⟩
    · rw [hu] at d2
      have HU := Lib.hid hu
      clear hu
      by_cases ha : ((sz (bs A) : Nat) : Int) + 1 = a
      · have hb : (((sz (bs A) : Nat) : Int) + 1 == a) = true := by simp [ha]
        have HA := Lib.hid ha
        clear ha
        gi_wp2
        gi_region
        gi_wp2
        all_goals exact ⟨(KeepsOthers.drew _).trans (KeepsOthers.setCell _ _ _), ⟨pre, x, A, B, rfl, rfl, HAB.out, by simp [isAt, HU.out, HA.out], hp, World.cell?_setCell_same' _ _ _ (by rw [hcr]; rfl)⟩, hB.drew.setCell (p := ⟨w.heap.size + 1, 0, none⟩) (by simp) _⟩
      · have hb : (((sz (bs A) : Nat) : Int) + 1 == a) = false := by simp [ha]
        have HA := Lib.hid ha
        clear ha
        gi_wp2
        gi_region
        gi_wp2
        all_goals exact ⟨KeepsOthers.drew _, (Below.refl _ _).drew, ⟨HNO.out (by simp [isAt, HU.out, HA.out]), hcw, hcr, hfr⟩, hB.drew⟩
  case done =>
    rintro D ys W hD hys ⟨⟨hne, _, hcr, hfr⟩, hB⟩ hK
    have HY := Lib.hid hys
    clear hys
    gi_wp2
    have hK' := (KeepsOthers.setCell W ⟨w.heap.size + 1, 0, none⟩ (.pointer none)).same D _ hK rfl
    refine ⟨by simp, .inl ⟨_, _, rfl, run_takeDeferred hK', ?_⟩⟩
    have hc5 := cell_kept (World.cell?_setCell_same' W ⟨w.heap.size + 1, 0, none⟩ (.pointer none) (by rw [hcr]; rfl)) (grownBy_putObj' _ D (.deferred none)) (fun r e => by cases e; exact ⟨_, hK', rfl⟩)
    refine ⟨.pointer none, ?_, (hB.setCell (p := ⟨w.heap.size + 1, 0, none⟩) (by simp) _).trans (belowK_b (w := w) (Nat.le_refl _) _ D _ _ (by simp at hD; omega) hK' rfl rfl), .inl ⟨rfl, fun A x B e => ?_⟩⟩
    · simp [results, Try.f48, go_sem, hc5]
    · have hm : x ∈ vals ys := by rw [HY.out, e]; simp
      obtain ⟨y, hy, rfl⟩ := List.mem_map.1 hm
      exact hne y hy A B e
  case stop =>
    rintro D c pre W hD hpre ⟨⟨pre', x, A, B, rfl, rfl, hAB, hat, hne, hcr⟩, hB⟩ hK
    have HP := Lib.hid hpre
    have HAB := Lib.hid hAB
    have HAT := Lib.hid hat
    clear hpre hAB hat
    gi_wp2
    refine ⟨by simp, .inl ⟨_, _, rfl, run_takeDeferred hK, ?_⟩⟩
    have hc5 := cell_kept hcr (grownBy_putObj' _ D (.deferred none)) (fun r e => by cases e; exact ⟨_, hK, rfl⟩)
    refine ⟨.pointer (some ⟨x.1.p, 0, none⟩), ?_, hB.trans (belowK_b (w := w) (Nat.le_refl _) W D _ _ (by simp at hD; omega) hK rfl rfl), .inr ⟨A, x.1, B, HAB.out, rfl, HAT.out, fun A' y B' e => ?_⟩⟩
    · simp [results, Try.f48, go_sem, hc5]
    · obtain ⟨t, ht⟩ := HP.out
      rw [vals_snoc, List.append_assoc] at ht
      have hn := h.nodup
      rw [HAB.out] at hn
      have eA := (nd_unique hn (HAB.out.symm.trans ht.symm)).1
      have hm : y ∈ vals pre' := by rw [← eA, e]; simp
      obtain ⟨z, hz, rfl⟩ := List.mem_map.1 hm
      exact hne z hz A' (B' ++ x.1 :: B) (HAB.out.trans (by rw [e]; simp))

theorem used_calls {g : Ghost} {S : St} {w : World} (h : Rep g S w) (hsz : sz S ≤ 32000) {s : Nat} (hs : g.s = s) (a : Int) :
    Calls Try.prog 48 #[.pointer (some ⟨s, 0, none⟩), .int .i64 a] w (UsedPost g a w) :=
  (callsIn_wide (n := 3)).1 (used_in _ _ trivial trivial trivial rfl (by omega) h hsz hs a)
end Go.Sto

/-
  cut, walked: a block is left so many words, and the rest becomes a free block behind it.
-/
namespace Go.Sto
open Go.Own Go.RowKit Go.Proofs

section
variable {g : Ghost} {S : St} {w : World}

def CutPost (g : Ghost) (A : List Nd) (x : Nd) (B : List Nd) (m : Nat) (w : World) (e : Ending) (w' : World) : Prop :=
  e = .returned (.tuple #[]) ∧ ∃ g' R, bs R = rest x.b.size m ∧ g'.L = A ++ ⟨x.p, x.v, ⟨m, x.b.used, x.b.ws⟩⟩ :: (R ++ B) ∧ Rep g' (bs g'.L) w' ∧ Step g g' w w'

theorem cut_post {A B : List Nd} {x : Nd} {w' : World} (h : Rep g S w) (e : g.L = A ++ x :: B) {m : Nat} (hm : m < x.b.size) (hko : KeepsOthers w w') (hz : w'.heap.size = w.heap.size + 1)
    (ht : Turn (fun k => k = x.p ∨ hd B none = some k) w w')
    (hx : w'.heap[x.p]? = some (.cells (ndCells (sz (bs A)) ⟨x.p, x.v, ⟨m, x.b.used, x.b.ws⟩⟩ (some w.heap.size) (lst A none)) 87 (0, 0)))
    (hr : w'.heap[w.heap.size]? = some (.cells #[.int .i64 ((sz (bs A) : Int) + m), .int .i64 ((x.b.size : Int) - m), .bool false, .slice none 0 0, ptr (hd B none), .pointer (some ⟨x.p, 0, none⟩)] 87 (0, 0)))
    (hy : ∀ y B', B = y :: B' → w'.heap[y.p]? = some (.cells (ndCells (sz (bs A) + x.b.size) y (hd B' none) (some w.heap.size)) 87 (0, 0))) :
    ∃ g' R, bs R = rest x.b.size m ∧ g'.L = A ++ ⟨x.p, x.v, ⟨m, x.b.used, x.b.ws⟩⟩ :: (R ++ B) ∧ Rep g' (bs g'.L) w' ∧ Step g g' w w' := by
  obtain ⟨g', e1, r1, s1⟩ := h.cut e m (by omega) hko hz ht hx (by
    rw [hr]; unfold ndCells hole
    have e1 : ((sz (bs A) + m : Nat) : Int) = (sz (bs A) : Int) + m := by omega
    have e2 : ((x.b.size - m : Nat) : Int) = (x.b.size : Int) - m := by omega
    rw [e1]; simp only [e2]; rfl) hy
  exact ⟨g', [⟨w.heap.size, .slice none 0 0, hole (x.b.size - m)⟩], by simp [rest, show ¬ x.b.size = m from by omega], by rw [e1]; rfl, r1, s1⟩

theorem cut_same {A B : List Nd} {x : Nd} (h : Rep g S w) (e : g.L = A ++ x :: B) {p : Nat} (hp : x.p = p) {m : Nat} (hm : x.b.size = m) :
    Calls Try.prog 47 #[.pointer (some ⟨p, 0, none⟩), .int .i64 m] w (CutPost g A x B m w) := by
  subst hp
  obtain ⟨c0, c1, -⟩ := nd_cells (h.mid e)
  rw [hm] at c1
  have HM := Lib.hid hm
  have HE := Lib.hid e
  clear hm e
  go_enter Try.func47, Try.ntmps47
  go_wp2
  refine bodyPost_ret (results_none rfl _ _ _) rfl ?_
  refine ⟨rfl, g, [], by simp [rest, HM.out], ?_, h.map ▸ h, Step.refl _ _⟩
  have := HM.out
  subst this
  exact HE.out

set_option maxRecDepth 10000 in
set_option maxHeartbeats 1000000 in
theorem cut_last {A : List Nd} {x : Nd} (h : Rep g S w) (e : g.L = A ++ x :: []) (hsz : sz S ≤ 32000) {p : Nat} (hp : x.p = p) {m : Nat} (hm : m < x.b.size) :
    Calls Try.prog 47 #[.pointer (some ⟨p, 0, none⟩), .int .i64 m] w (CutPost g A x [] m w) := by
  subst hp
  have hsz2 : sz (bs A) + x.b.size ≤ 32000 := by rw [h.map, e, bs_append, sz_append] at hsz; simp [sz] at hsz; omega
  obtain ⟨c0, c1, c2, c3, c4, c5, fz⟩ := nd_cells (h.mid e)
  simp only [hd, ptr_none] at c4
  have hb : (((x.b.size : Nat) : Int) == (m : Int)) = false := by simp; omega
  have hw1 : IntKind.i64.wrap (((sz (bs A) : Nat) : Int) + m) = (sz (bs A) : Int) + m := IntWalk.i64_in _ (by omega)
  have hw2 : IntKind.i64.wrap (((x.b.size : Nat) : Int) - m) = (x.b.size : Int) - m := IntWalk.i64_in _ (by omega)
  have hlt : x.p < w.heap.size := h.plt (by rw [e]; simp)
  have HE := Lib.hid e
  have HM := Lib.hid hm
  obtain ⟨q5, hq5⟩ : ∃ q, ptr (lst A none) = q := ⟨_, rfl⟩
  rw [hq5] at c5
  have HQ := Lib.hid hq5
  clear e hm hsz hsz2 hq5
  go_enter Try.func47, Try.ntmps47
  go_wp2
  go_region
  go_wp2
  go_end0
  have hx := h.mid HE.out
  refine ⟨rfl, cut_post h HE.out HM.out ((((KeepsOthers.setCell _ _ _).trans (KeepsOthers.setCell _ _ _)).trans (KeepsOthers.alloc _ _)).trans (KeepsOthers.drew _)) (by simp) ?_ ?_ ?_ (fun y B' e => by cases e)⟩
  · exact ((((Turn.refl _ w).setCell (fun _ => .inl rfl) _).setCell (fun _ => .inl rfl) _).alloc _).drew
  · show (World.alloc _ _).heap[x.p]? = _
    rw [heap_alloc_lt _ _ _ (by simpa using hlt), heap_setCell_self _ (heap_setCell_self _ hx)]
    rfl
  · show (World.alloc _ _).heap[_]? = _
    have := World.alloc_heap_new ((w.setCell ⟨x.p, 4, none⟩ (.pointer (some ⟨w.heap.size, 0, none⟩))).setCell ⟨x.p, 1, none⟩ (.int .i64 m)) (.cells #[.int .i64 ((sz (bs A) : Int) + m), .int .i64 ((x.b.size : Int) - m), .bool false, .slice none 0 0, .pointer none, .pointer (some ⟨x.p, 0, none⟩)] 87 (0, 0))
    simp only [World.size_setCell] at this
    exact this

set_option maxRecDepth 10000 in
set_option maxHeartbeats 1000000 in
theorem cut_mid {A B : List Nd} {x y : Nd} (h : Rep g S w) (e : g.L = A ++ x :: y :: B) (hsz : sz S ≤ 32000) {p : Nat} (hp : x.p = p) {m : Nat} (hm : m < x.b.size) :
    Calls Try.prog 47 #[.pointer (some ⟨p, 0, none⟩), .int .i64 m] w (CutPost g A x (y :: B) m w) := by
  subst hp
  have hsz2 : sz (bs A) + x.b.size ≤ 32000 := by rw [h.map, e, bs_append, sz_append] at hsz; simp [sz] at hsz; omega
  obtain ⟨c0, c1, c2, c3, c4, c5, fz⟩ := nd_cells (h.mid e)
  have e2 : g.L = (A ++ [x]) ++ y :: B := by rw [e]; simp
  obtain ⟨-, -, -, -, -, d5, fy⟩ := nd_cells (h.mid e2)
  have hne : y.p ≠ x.p := (ne_of_nodup (e ▸ h.nodup)).2 y (by simp)
  have hne' : x.p ≠ y.p := fun e => hne e.symm
  simp only [hd, ptr_some] at c4
  rw [lst_append] at d5
  simp only [lst, ptr_some] at d5
  have hb : (((x.b.size : Nat) : Int) == (m : Int)) = false := by simp; omega
  have hw1 : IntKind.i64.wrap (((sz (bs A) : Nat) : Int) + m) = (sz (bs A) : Int) + m := IntWalk.i64_in _ (by omega)
  have hw2 : IntKind.i64.wrap (((x.b.size : Nat) : Int) - m) = (x.b.size : Int) - m := IntWalk.i64_in _ (by omega)
  have hlt : x.p < w.heap.size := h.plt (by rw [e]; simp)
  have hlty : y.p < w.heap.size := h.plt (by rw [e]; simp)
  have HE := Lib.hid e
  have HE2 := Lib.hid e2
  have HM := Lib.hid hm
  obtain ⟨q5, hq5⟩ : ∃ q, ptr (lst A none) = q := ⟨_, rfl⟩
  rw [hq5] at c5
  have HQ := Lib.hid hq5
  clear e hm hsz hsz2 hq5 e2
  go_enter Try.func47, Try.ntmps47
  go_wp2
  go_region
  go_wp2
  go_end0
  have hx := h.mid HE.out
  have hY := h.mid HE2.out
  have hx1 : (w.setCell ⟨y.p, 5, none⟩ (.pointer (some ⟨w.heap.size, 0, none⟩))).heap[x.p]? = _ := (heap_setCell_ne _ hne').trans hx
  have hy1 := heap_setCell_self (i := 5) (.pointer (some ⟨w.heap.size, 0, none⟩)) hY
  refine ⟨rfl, cut_post h HE.out HM.out (((((KeepsOthers.setCell _ _ _).trans (KeepsOthers.setCell _ _ _)).trans (KeepsOthers.setCell _ _ _)).trans (KeepsOthers.alloc _ _)).trans (KeepsOthers.drew _)) (by simp) ?_ ?_ ?_ (fun y' B' e => ?_)⟩
  · exact (((((Turn.refl _ w).setCell (p := ⟨y.p, 5, none⟩) (fun _ => .inr rfl) _).setCell (fun _ => .inl rfl) _).setCell (fun _ => .inl rfl) _).alloc _).drew
  · show (World.alloc _ _).heap[x.p]? = _
    rw [heap_alloc_lt _ _ _ (by simpa using hlt), heap_setCell_self _ (heap_setCell_self _ hx1)]
    rfl
  · show (World.alloc _ _).heap[_]? = _
    have := World.alloc_heap_new (((w.setCell ⟨y.p, 5, none⟩ (.pointer (some ⟨w.heap.size, 0, none⟩))).setCell ⟨x.p, 4, none⟩ (.pointer (some ⟨w.heap.size, 0, none⟩))).setCell ⟨x.p, 1, none⟩ (.int .i64 m)) (.cells #[.int .i64 ((sz (bs A) : Int) + m), .int .i64 ((x.b.size : Int) - m), .bool false, .slice none 0 0, .pointer (some ⟨y.p, 0, none⟩), .pointer (some ⟨x.p, 0, none⟩)] 87 (0, 0))
    simp only [World.size_setCell] at this
    exact this
  · cases e
    show (World.alloc _ _).heap[y.p]? = _
    rw [heap_alloc_lt _ _ _ (by simpa using hlty), heap_setCell_ne _ (by exact hne), heap_setCell_ne _ (by exact hne), hy1, bs_append, sz_append]
    simp [ndCells, sz]

theorem cut_calls {A B : List Nd} {x : Nd} (h : Rep g S w) (e : g.L = A ++ x :: B) (hsz : sz S ≤ 32000) {p : Nat} (hp : x.p = p) {m : Nat} (hm : m ≤ x.b.size) :
    Calls Try.prog 47 #[.pointer (some ⟨p, 0, none⟩), .int .i64 m] w (CutPost g A x B m w) := by
  rcases Nat.lt_or_eq_of_le hm with hm | hm
  · cases B with
    | nil => exact cut_last h e hsz hp hm
    | cons y B => exact cut_mid h e hsz hp hm
  · exact cut_same h e hp hm.symm
end
end Go.Sto

/-
  join and free, walked: a block is joined with the one behind it; a block is given back.
-/
namespace Go.Sto
open Go.Own Go.RowKit Go.Proofs

section
variable {g : Ghost} {S : St} {w : World}

def JoinPost (g : Ghost) (A : List Nd) (x y : Nd) (B : List Nd) (w : World) (e : Ending) (w' : World) : Prop :=
  e = .returned (.tuple #[]) ∧ ∃ g', g'.L = A ++ ⟨x.p, x.v, ⟨x.b.size + y.b.size, x.b.used, x.b.ws⟩⟩ :: B ∧ Rep g' (bs g'.L) w' ∧ Step g g' w w'

set_option maxRecDepth 10000 in
set_option maxHeartbeats 1000000 in
theorem join_last {A : List Nd} {x y : Nd} (h : Rep g S w) (e : g.L = A ++ x :: y :: []) (hsz : sz S ≤ 32000) {p : Nat} (hp : x.p = p) :
    Calls Try.prog 50 #[.pointer (some ⟨p, 0, none⟩)] w (JoinPost g A x y [] w) := by
  subst hp
  have hsz2 : sz (bs A) + x.b.size + y.b.size ≤ 32000 := by rw [h.map, e, bs_append, sz_append] at hsz; simp [sz] at hsz; omega
  obtain ⟨c0, c1, c2, c3, c4, c5, fz⟩ := nd_cells (h.mid e)
  have e2 : g.L = (A ++ [x]) ++ y :: [] := by rw [e]; simp
  obtain ⟨-, d1, -, -, d4, -, -⟩ := nd_cells (h.mid e2)
  have hne : y.p ≠ x.p := (ne_of_nodup (e ▸ h.nodup)).2 y (by simp)
  have hne' : x.p ≠ y.p := fun e => hne e.symm
  simp only [hd, ptr_some] at c4
  simp only [hd, ptr_none] at d4
  have hw1 : IntKind.i64.wrap (((x.b.size : Nat) : Int) + y.b.size) = (x.b.size : Int) + y.b.size := IntWalk.i64_in _ (by omega)
  have HE := Lib.hid e
  obtain ⟨q5, hq5⟩ : ∃ q, ptr (lst A none) = q := ⟨_, rfl⟩
  rw [hq5] at c5
  have HQ := Lib.hid hq5
  clear e hsz hsz2 hq5 e2
  go_enter Try.func50, Try.ntmps50
  go_wp2
  go_region
  go_wp2
  go_end0
  have hx := h.mid HE.out
  refine ⟨rfl, h.join HE.out (((KeepsOthers.setCell _ _ _).trans (KeepsOthers.setCell _ _ _)).trans (KeepsOthers.drew _)) (by simp) ?_ ?_ (fun y B' e => by cases e)⟩
  · exact (((Turn.refl _ w).setCell (fun _ => .inl rfl) _).setCell (fun _ => .inl rfl) _).drew
  · show (World.setCell _ _ _).heap[x.p]? = _
    rw [heap_setCell_self _ (heap_setCell_self _ hx)]
    simp [ndCells, hd]

set_option maxRecDepth 10000 in
set_option maxHeartbeats 1000000 in
theorem join_mid {A B : List Nd} {x y z : Nd} (h : Rep g S w) (e : g.L = A ++ x :: y :: z :: B) (hsz : sz S ≤ 32000) {p : Nat} (hp : x.p = p) :
    Calls Try.prog 50 #[.pointer (some ⟨p, 0, none⟩)] w (JoinPost g A x y (z :: B) w) := by
  subst hp
  have hsz2 : sz (bs A) + x.b.size + y.b.size ≤ 32000 := by rw [h.map, e, bs_append, sz_append] at hsz; simp [sz] at hsz; omega
  obtain ⟨c0, c1, c2, c3, c4, c5, fz⟩ := nd_cells (h.mid e)
  have e2 : g.L = (A ++ [x]) ++ y :: z :: B := by rw [e]; simp
  have e3 : g.L = (A ++ [x, y]) ++ z :: B := by rw [e]; simp
  obtain ⟨-, d1, -, -, d4, -, -⟩ := nd_cells (h.mid e2)
  obtain ⟨-, -, -, -, -, z5, fzz⟩ := nd_cells (h.mid e3)
  have hn := h.nodup
  have hne : y.p ≠ x.p := (ne_of_nodup (e ▸ hn)).2 y (by simp)
  have hne' : x.p ≠ y.p := fun e => hne e.symm
  have hnz : z.p ≠ x.p := (ne_of_nodup (e ▸ hn)).2 z (by simp)
  have hnz' : x.p ≠ z.p := fun e => hnz e.symm
  have hny : z.p ≠ y.p := (ne_of_nodup (e2 ▸ hn)).2 z (by simp)
  have hny' : y.p ≠ z.p := fun e => hny e.symm
  simp only [hd, ptr_some] at c4 d4
  rw [lst_append] at z5
  simp only [lst, ptr_some] at z5
  have hw1 : IntKind.i64.wrap (((x.b.size : Nat) : Int) + y.b.size) = (x.b.size : Int) + y.b.size := IntWalk.i64_in _ (by omega)
  have HE := Lib.hid e
  have HE3 := Lib.hid e3
  obtain ⟨q5, hq5⟩ : ∃ q, ptr (lst A none) = q := ⟨_, rfl⟩
  rw [hq5] at c5
  have HQ := Lib.hid hq5
  clear e hsz hsz2 hq5 e2 e3 hn
  go_enter Try.func50, Try.ntmps50
  go_wp2
  go_region
  go_wp2
  go_end0
  have hx := h.mid HE.out
  have hz := h.mid HE3.out
  refine ⟨rfl, h.join HE.out ((((KeepsOthers.setCell _ _ _).trans (KeepsOthers.setCell _ _ _)).trans (KeepsOthers.setCell _ _ _)).trans (KeepsOthers.drew _)) (by simp) ?_ ?_ (fun y' B' e => ?_)⟩
  · exact ((((Turn.refl _ w).setCell (p := ⟨x.p, 1, none⟩) (fun _ => .inl rfl) _).setCell (fun _ => .inl rfl) _).setCell (fun _ => .inr rfl) _).drew
  · show (World.setCell _ _ _).heap[x.p]? = _
    rw [heap_setCell_ne _ (by exact hnz'), heap_setCell_self _ (heap_setCell_self _ hx)]
    simp [ndCells, hd]
  · cases e
    show (World.setCell _ _ _).heap[z.p]? = _
    rw [heap_setCell_self _ ((heap_setCell_ne _ (by exact hnz)).trans ((heap_setCell_ne _ (by exact hnz)).trans hz))]
    simp [ndCells, sz_append, sz, Nat.add_assoc]

theorem join_calls {A B : List Nd} {x y : Nd} (h : Rep g S w) (e : g.L = A ++ x :: y :: B) (hsz : sz S ≤ 32000) {p : Nat} (hp : x.p = p) :
    Calls Try.prog 50 #[.pointer (some ⟨p, 0, none⟩)] w (JoinPost g A x y B w) := by
  cases B with
  | nil => exact join_last h e hsz hp
  | cons z B => exact join_mid h e hsz hp
end
end Go.Sto
