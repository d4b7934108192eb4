/-
  The reference player's put, walked.
-/
import Derived.Deep.LoopGhost
import Derived.Test.YtahfoejffibahaaQStoRPlayer
set_option linter.unusedVariables false

namespace Go.Sto
open Go.Own Go.RowKit Go.Proofs

def PPutPost (w0 : World) (pb : Nat) (q : RP) (gv wv ov : Value) (k : Int) (e : Ending) (w' : World) : Prop :=
  e = .returned (.int .i64 (rputM q k).2) ∧ ∃ v' L', RPM w0 pb (rputM q k).1 v' gv wv ov L' w'

theorem RPM.cells {w0 w : World} {pb : Nat} {q : RP} {v gv wv ov : Value} {L : List RN} (h : RPM w0 pb q v gv wv ov L w) :
    w.cell? ⟨pb, 0, none⟩ = some v ∧ w.cell? ⟨pb, 1, none⟩ = some gv ∧ w.cell? ⟨pb, 2, none⟩ = some wv ∧ w.cell? ⟨pb, 3, none⟩ = some ov ∧ w.frozen? ⟨pb, 0, none⟩ = false :=
  ⟨cell_at h.blk rfl, cell_at h.blk rfl, cell_at h.blk rfl, cell_at h.blk rfl, frozen_at h.blk⟩

set_option maxRecDepth 100000 in
set_option maxHeartbeats 4000000 in
theorem rpput_off {w0 w : World} {pb : Nat} {q : RP} {v gv wv ov : Value} {L : List RN} (h : RPM w0 pb q v gv wv ov L w) (hl : q.gave.length ≤ 1000) (hw : q.works.length = q.gave.length) (k : Int)
    (hk : k < 0 ∨ q.gave.length ≤ k ∨ q.works.getD k.toNat false = false) :
    Calls Try.prog 42 #[.pointer (some ⟨pb, 0, none⟩), .int .i64 k] w (PPutPost w0 pb q gv wv ov k) := by
  have hpost : ∀ w', Below w.heap.size w w' → PPutPost w0 pb q gv wv ov k (.returned (.int .i64 0)) w' := fun w' hB => by
    have e : rputM q k = (q, 0) := by unfold rputM; rw [if_pos hk]
    unfold PPutPost
    rw [e]
    exact ⟨rfl, v, L, h.below hB⟩
  obtain ⟨c0, c1, c2, c3, -⟩ := h.cells
  obtain ⟨ga, gn, gc, rfl, hgl, -⟩ := SliceAt.form h.gs
  have hgn : gn = q.gave.length := by rw [icells_length] at hgl; omega
  obtain ⟨N, hN⟩ : ∃ N, q.gave.length = N := ⟨_, rfl⟩
  rw [hN] at hgn hl hk hw
  subst hgn
  have HP := Lib.hid hpost
  by_cases hk0 : k < 0
  · have q1 : decide (k < 0) = true := decide_eq_true hk0
    clear h hpost hk hk0 hw hN hgl
    go_enter Try.func42, Try.ntmps42
    go_wp2
    go_ret
    exact HP.out w (Below.refl _ _)
  · obtain ⟨m, rfl⟩ := Int.eq_ofNat_of_zero_le (by omega : 0 ≤ k)
    have q1 : decide ((m : Int) < 0) = false := decide_eq_false hk0
    by_cases hk1 : gn ≤ m
    · have q2 : decide ((gn : Int) ≤ (m : Int)) = true := decide_eq_true (by omega)
      have q3 : decide (gn ≤ m) = true := decide_eq_true hk1
      clear h hpost hk hk0 hw hN hgl hk1
      go_enter Try.func42, Try.ntmps42
      go_wp2
      go_ret
      exact HP.out w (Below.refl _ _)
    · have q2 : decide ((gn : Int) ≤ (m : Int)) = false := decide_eq_false (by omega)
      have q3 : decide (gn ≤ m) = false := decide_eq_false hk1
      have hwk : q.works[m]? = some false := by
        rcases hk with a | a | a
        · omega
        · omega
        · have h1 : m < q.works.length := by omega
          simp only [Int.toNat_natCast, List.getD, List.getElem?_eq_getElem h1, Option.getD_some] at a
          rw [List.getElem?_eq_getElem h1, a]
      obtain ⟨wa, wn, wc, rfl, hwl, -⟩ := SliceAt.form h.ws
      have hwn : wn = gn := by rw [bools_length] at hwl; omega
      subst hwn
      obtain ⟨wg, woff, rfl⟩ := SliceAt.addr h.ws (by omega)
      have c5 : w.cell? ⟨wg, woff + m, none⟩ = some (.bool false) := SliceAt.cells h.ws m _ (by unfold bools; rw [List.getElem?_map, hwk]; rfl)
      have hmn : m < wn := by omega
      clear h hpost hk hk0 hw hN hgl hk1 hwl hwk
      go_enter Try.func42, Try.ntmps42
      go_wp2
      go_ret
      exact HP.out w (Below.refl _ _)

/-- Where a was, the first j entries have 0. -/
def zl (a : Int) (l : List Int) (j : Nat) : List Int := (l.take j).map (fun x => if x = a then 0 else x) ++ l.drop j
theorem zl_zero (a : Int) (l : List Int) : zl a l 0 = l := by simp [zl]
theorem zl_full (a : Int) (l : List Int) : zl a l l.length = l.map (fun x => if x = a then 0 else x) := by simp [zl]
theorem zl_length (a : Int) (l : List Int) (j : Nat) : (zl a l j).length = l.length := by unfold zl; simp only [List.length_append, List.length_map, List.length_take, List.length_drop]; omega
theorem zl_get {a x : Int} {l : List Int} {j : Nat} (h : l[j]? = some x) : (zl a l j)[j]? = some x := by
  have hj := (List.getElem?_eq_some_iff.1 h).1
  have hl : ((l.take j).map (fun x => if x = a then 0 else x)).length = j := by rw [List.length_map, List.length_take]; omega
  unfold zl
  rw [List.getElem?_append_right (by omega), hl, Nat.sub_self, List.getElem?_drop, Nat.add_zero, h]
theorem zl_next {a x : Int} {l : List Int} {j : Nat} (h : l[j]? = some x) : zl a l (j + 1) = (zl a l j).set j (if x = a then 0 else x) := by
  have h1 := List.getElem?_eq_some_iff.1 h
  have h2 := List.drop_eq_getElem_cons h1.1
  rw [h1.2] at h2
  have hj := h1.1
  have hl : ((l.take j).map (fun x => if x = a then 0 else x)).length = j := by rw [List.length_map, List.length_take]; omega
  unfold zl
  rw [h2, List.set_append_right _ _ (by omega), hl, Nat.sub_self, List.take_add_one, h]
  simp
theorem set_eq_self {l : List Int} {i : Nat} {x : Int} (h : l[i]? = some x) : l.set i x = l := by
  apply List.ext_getElem?
  intro j
  rw [List.getElem?_set]
  split
  · rename_i e; subst e
    rw [if_pos (List.getElem?_eq_some_iff.1 h).1, h]
  · rfl

/-- What holds at each stage of the region of the call: 11 the call, 12 its tuple, 13 the store that it gave, 15 a box, 16 the box is written. -/
structure P3 (W : World) (v : Value) (L : List RN) (T : St) (E : Int) (s : Nat) (ξ : Nat → Value) (w : World) : Prop where
  b : Below W.heap.size W w
  e11 : (s = 1 ∨ 3 ≤ s) → ∃ v' L', ξ 11 = .tuple #[.agg #[v'], .int .i64 E] ∧ (s = 3 ∨ 5 ≤ s → ξ 12 = .tuple #[.agg #[v'], .int .i64 E]) ∧ (s = 5 ∨ 7 ≤ s → ξ 13 = .agg #[v']) ∧ RC w v' L' T ∧ FromOr v L W.heap.size v' L' ∧
    (s = 8 → ∃ nb, ξ 15 = .pointer (some ⟨nb, 0, none⟩) ∧ w.cell? ⟨nb, 0, none⟩ = some v' ∧ W.heap.size ≤ nb)
  e15 : (s = 2 ∨ s = 4 ∨ s = 6 ∨ s = 7) → ∃ nb, ξ 15 = .pointer (some ⟨nb, 0, none⟩) ∧ w.heap[nb]? = some (.cells #[.slice none 0 0] 59 (0, 0)) ∧ W.heap.size ≤ nb

set_option maxRecDepth 100000 in
set_option maxHeartbeats 4000000 in
theorem rpput_on {w0 w : World} {pb : Nat} {q : RP} {v gv wv ov : Value} {L : List RN} {n : Nat} (h : RPM w0 pb q v gv wv ov L w) (ok : Ok n q.S) (hl : q.gave.length ≤ 1000) (hgl : q.got.length ≤ 1000) (hw : q.works.length = q.gave.length) (m : Nat) {a : Int}
    (ha : q.gave[m]? = some a) (hwk : q.works[m]? = some true) :
    Calls Try.prog 42 #[.pointer (some ⟨pb, 0, none⟩), .int .i64 m] w (PPutPost w0 pb q gv wv ov m) := by
  obtain ⟨c0, c1, c2, c3, -⟩ := h.cells
  obtain ⟨va, vn, vc, rfl, -⟩ := SliceAt.form h.rc.ref
  obtain ⟨ga, gn, gc, rfl, hgln, -⟩ := SliceAt.form h.gs
  obtain ⟨wa, wn, wc, rfl, hwln, -⟩ := SliceAt.form h.ws
  obtain ⟨oa, on, oc, rfl, holn, -⟩ := SliceAt.form h.os
  have hm : m < q.gave.length := (List.getElem?_eq_some_iff.1 ha).1
  rw [icells_length] at hgln holn
  rw [bools_length] at hwln
  have hgm : m < gn := by omega
  have hwm : m < wn := by omega
  have hgn1 : gn ≤ 1000 := by omega
  obtain ⟨gg, goff, rfl⟩ := SliceAt.addr h.gs (by omega)
  obtain ⟨wg, woff, rfl⟩ := SliceAt.addr h.ws (by omega)
  have c4 : w.cell? ⟨gg, goff + m, none⟩ = some (.int .i64 a) := SliceAt.cells h.gs m _ (by unfold icells; rw [List.getElem?_map, ha]; rfl)
  have c5 : w.cell? ⟨wg, woff + m, none⟩ = some (.bool true) := SliceAt.cells h.ws m _ (by unfold bools; rw [List.getElem?_map, hwk]; rfl)
  have q1 : decide ((m : Int) < 0) = false := decide_eq_false (by omega)
  have q2 : decide ((gn : Int) ≤ (m : Int)) = false := decide_eq_false (by omega)
  have q3 : decide (gn ≤ m) = false := decide_eq_false (by omega)
  have H := Lib.hid (And.intro h (And.intro ok (And.intro hl (And.intro hgl (And.intro hw (And.intro ha (And.intro hwk holn)))))))
  clear h ok hl hgl hw ha hwk hgln hwln holn hm
  go_enter Try.func42, Try.ntmps42
  go_upto_region 3 with fail
  obtain ⟨T, hT⟩ : ∃ T, (put q.S a).1 = T := ⟨_, rfl⟩
  obtain ⟨E, hE⟩ : ∃ T, (put q.S a).2 = T := ⟨_, rfl⟩
  have HTE := Lib.hid (And.intro hT hE)
  have HB := Lib.hid (And.intro (cell_lt c0) (And.intro (cell_lt c1) (And.intro (cell_lt c4) c0)))
  clear hT hE
  refine wp_region_planH (aX := ?aX3) [11, 12, 13, 15, 16] [[], [11], [15], [11, 12], [11, 15], [11, 12, 13], [11, 12, 15], [11, 12, 13, 15], [11, 12, 13, 15, 16]] 8 [(0, 0, 0), (0, 1, 1), (0, 2, 2), (0, 3, 3), (0, 4, 4), (0, 5, 5), (0, 6, 6), (0, 7, 7), (1, 0, 0), (1, 2, 2), (2, 0, 0), (2, 2, 2), (3, 0, 0), (3, 2, 2), (4, 0, 0), (4, 1, 1), (4, 2, 2), (4, 3, 3), (4, 4, 4), (4, 5, 5), (4, 6, 6), (4, 7, 7), (5, 0, 0), (5, 1, 1), (5, 2, 2), (5, 3, 3), (5, 4, 4), (5, 5, 5), (5, 6, 6), (5, 7, 7), (6, 0, 0), (6, 1, 1), (6, 2, 2), (6, 3, 3), (6, 4, 4), (6, 5, 5), (6, 6, 6), (6, 7, 7), (7, 0, 0), (7, 2, 2), (8, 0, 0), (8, 2, 2), (9, 0, 0), (9, 2, 2), (10, 0, 0), (10, 2, 2), (11, 0, 1), (11, 2, 4), (12, 1, 3), (12, 4, 6), (13, 3, 5), (13, 6, 7), (14, 3, 3), (14, 5, 5), (14, 6, 6), (14, 7, 7), (14, 8, 8), (15, 0, 2), (15, 1, 4), (15, 3, 6), (15, 5, 7), (16, 7, 8), (17, 8, 8)]
    [.pointer (some ⟨pb, 0, none⟩), .pointer (some ⟨pb, 0, none⟩), .pointer (some ⟨pb, 0, none⟩), .agg #[.slice va vn vc], .pointer (some ⟨pb, 0, none⟩), .pointer (some ⟨pb, 0, none⟩), .pointer (some ⟨pb, 1, none⟩), .slice (some ⟨gg, goff, none⟩) gn gc, .int .i64 m, .pointer (some ⟨gg, goff + m, none⟩), .int .i64 a, undef, undef, undef, .int .i64 E, undef, undef, .int .i64 E]
    (P3 w.drew (.slice va vn vc) L T E) (by kernel_rfl) (by kernel_rfl) rfl ?hX3 (fun _ => undef) ?h03 ?hob3 ?hend3
  case hX3 => intro ξ; simp only [mixAll, Act.put]; go_simp; rfl
  case h03 => exact ⟨Below.refl _ _, fun q => absurd q (by decide), fun q => absurd q (by decide)⟩
  case hob3 =>
    refine oblsH_cons rfl (stepH_value rfl rfl (fun _ _ _ => rfl)) ?_
    refine oblsH_cons rfl (stepH_value rfl rfl (fun _ _ _ => rfl)) ?_
    refine oblsH_cons rfl (stepH_value rfl rfl (fun _ _ _ => rfl)) ?_
    refine oblsH_cons rfl (stepH_value rfl rfl (fun _ _ _ => rfl)) ?_
    refine oblsH_cons rfl (stepH_value rfl rfl (fun _ _ _ => rfl)) ?_
    refine oblsH_cons rfl (stepH_value rfl rfl (fun _ _ _ => rfl)) ?_
    refine oblsH_cons rfl (stepH_value rfl rfl (fun _ _ _ => rfl)) ?_
    refine oblsH_cons rfl (stepH_value rfl rfl (fun _ _ _ => rfl)) ?_
    refine oblsH_cons rfl (stepH_value rfl rfl (fun _ _ _ => rfl)) ?_
    refine oblsH_cons rfl (stepH_value rfl rfl (fun _ _ _ => rfl)) ?_
    refine oblsH_cons rfl (stepH_value rfl rfl (fun _ _ _ => rfl)) ?_
    refine oblsH_cons rfl (stepH_value rfl rfl (fun _ _ _ => rfl)) ?_
    refine oblsH_cons rfl (stepH_value rfl rfl ?_) ?_
    · rintro ξ w5 h5
      have x0 := (h5.b.cell (p := ⟨pb, 0, none⟩) HB.out.1).trans c0
      have x1 := (h5.b.cell (p := ⟨pb, 1, none⟩) HB.out.1).trans c1
      have x4 := (h5.b.cell (p := ⟨gg, goff + m, none⟩) HB.out.2.2.1).trans c4
      clear h5
      go_simp
      try rfl
    refine oblsH_cons rfl (stepH_value rfl rfl ?_) ?_
    · rintro ξ w5 h5
      have x0 := (h5.b.cell (p := ⟨pb, 0, none⟩) HB.out.1).trans c0
      have x1 := (h5.b.cell (p := ⟨pb, 1, none⟩) HB.out.1).trans c1
      have x4 := (h5.b.cell (p := ⟨gg, goff + m, none⟩) HB.out.2.2.1).trans c4
      clear h5
      go_simp
      try rfl
    refine oblsH_cons rfl (stepH_value rfl rfl (fun _ _ _ => rfl)) ?_
    refine oblsH_cons rfl (stepH_value rfl rfl (fun _ _ _ => rfl)) ?_
    refine oblsH_cons rfl (stepH_value rfl rfl (fun _ _ _ => rfl)) ?_
    refine oblsH_cons rfl (stepH_value rfl rfl (fun _ _ _ => rfl)) ?_
    refine oblsH_cons rfl (stepH_value rfl rfl (fun _ _ _ => rfl)) ?_
    refine oblsH_cons rfl (stepH_value rfl rfl (fun _ _ _ => rfl)) ?_
    refine oblsH_cons rfl (stepH_value rfl rfl (fun _ _ _ => rfl)) ?_
    refine oblsH_cons rfl (stepH_value rfl rfl (fun _ _ _ => rfl)) ?_
    refine oblsH_cons rfl (stepH_value rfl rfl (fun _ _ _ => rfl)) ?_
    refine oblsH_cons rfl (stepH_value rfl rfl (fun _ _ _ => rfl)) ?_
    refine oblsH_cons rfl (stepH_value rfl rfl (fun _ _ _ => rfl)) ?_
    refine oblsH_cons rfl (stepH_value rfl rfl (fun _ _ _ => rfl)) ?_
    refine oblsH_cons rfl (stepH_value rfl rfl (fun _ _ _ => rfl)) ?_
    refine oblsH_cons rfl (stepH_value rfl rfl (fun _ _ _ => rfl)) ?_
    refine oblsH_cons rfl (stepH_value rfl rfl (fun _ _ _ => rfl)) ?_
    refine oblsH_cons rfl (stepH_value rfl rfl (fun _ _ _ => rfl)) ?_
    refine oblsH_cons rfl (stepH_value rfl rfl (fun _ _ _ => rfl)) ?_
    refine oblsH_cons rfl (stepH_value rfl rfl (fun _ _ _ => rfl)) ?_
    refine oblsH_cons rfl (stepH_value rfl rfl (fun _ _ _ => rfl)) ?_
    refine oblsH_cons rfl (stepH_value rfl rfl (fun _ _ _ => rfl)) ?_
    refine oblsH_cons rfl (stepH_value rfl rfl (fun _ _ _ => rfl)) ?_
    refine oblsH_cons rfl (stepH_value rfl rfl (fun _ _ _ => rfl)) ?_
    refine oblsH_cons rfl (stepH_value rfl rfl (fun _ _ _ => rfl)) ?_
    refine oblsH_cons rfl (stepH_value rfl rfl (fun _ _ _ => rfl)) ?_
    refine oblsH_cons rfl (stepH_value rfl rfl ?_) ?_
    · rintro ξ w5 h5
      have x0 := (h5.b.cell (p := ⟨pb, 0, none⟩) HB.out.1).trans c0
      have x1 := (h5.b.cell (p := ⟨pb, 1, none⟩) HB.out.1).trans c1
      have x4 := (h5.b.cell (p := ⟨gg, goff + m, none⟩) HB.out.2.2.1).trans c4
      clear h5
      go_simp
      try rfl
    refine oblsH_cons rfl (stepH_value rfl rfl ?_) ?_
    · rintro ξ w5 h5
      have x0 := (h5.b.cell (p := ⟨pb, 0, none⟩) HB.out.1).trans c0
      have x1 := (h5.b.cell (p := ⟨pb, 1, none⟩) HB.out.1).trans c1
      have x4 := (h5.b.cell (p := ⟨gg, goff + m, none⟩) HB.out.2.2.1).trans c4
      clear h5
      go_simp
      try rfl
    refine oblsH_cons rfl (stepH_value rfl rfl (fun _ _ _ => rfl)) ?_
    refine oblsH_cons rfl (stepH_value rfl rfl (fun _ _ _ => rfl)) ?_
    refine oblsH_cons rfl (stepH_value rfl rfl ?_) ?_
    · rintro ξ w5 h5
      have x0 := (h5.b.cell (p := ⟨pb, 0, none⟩) HB.out.1).trans c0
      have x1 := (h5.b.cell (p := ⟨pb, 1, none⟩) HB.out.1).trans c1
      have x4 := (h5.b.cell (p := ⟨gg, goff + m, none⟩) HB.out.2.2.1).trans c4
      clear h5
      go_simp
      try rfl
    refine oblsH_cons rfl (stepH_value rfl rfl ?_) ?_
    · rintro ξ w5 h5
      have x0 := (h5.b.cell (p := ⟨pb, 0, none⟩) HB.out.1).trans c0
      have x1 := (h5.b.cell (p := ⟨pb, 1, none⟩) HB.out.1).trans c1
      have x4 := (h5.b.cell (p := ⟨gg, goff + m, none⟩) HB.out.2.2.1).trans c4
      clear h5
      go_simp
      try rfl
    refine oblsH_cons rfl (stepH_value rfl rfl ?_) ?_
    · rintro ξ w5 h5
      have x0 := (h5.b.cell (p := ⟨pb, 0, none⟩) HB.out.1).trans c0
      have x1 := (h5.b.cell (p := ⟨pb, 1, none⟩) HB.out.1).trans c1
      have x4 := (h5.b.cell (p := ⟨gg, goff + m, none⟩) HB.out.2.2.1).trans c4
      clear h5
      go_simp
      try rfl
    refine oblsH_cons rfl (stepH_value rfl rfl ?_) ?_
    · rintro ξ w5 h5
      have x0 := (h5.b.cell (p := ⟨pb, 0, none⟩) HB.out.1).trans c0
      have x1 := (h5.b.cell (p := ⟨pb, 1, none⟩) HB.out.1).trans c1
      have x4 := (h5.b.cell (p := ⟨gg, goff + m, none⟩) HB.out.2.2.1).trans c4
      clear h5
      go_simp
      try rfl
    refine oblsH_cons rfl (stepH_call rfl rfl ?_) ?_
    · rintro ξ w5 h5
      have hz := h5.b.size
      refine ⟨57, #[.agg #[.slice va vn vc], .int .i64 a], by clear h5; go_simp, ?_⟩
      refine (rput_calls (H.out.1.rc.below ((Below.refl _ w).drew.trans h5.b)) H.out.2.1 a).mono ?_
      rintro e6 w6 ⟨v6, L6, rfl, r6, b6, f6⟩
      rw [HTE.out.1] at r6
      rw [HTE.out.2]
      have hf : FromOr (.slice va vn vc) L w.drew.heap.size v6 L6 := by
        rcases f6 with q | q
        · exact .inl q
        · exact .inr (q.mono hz)
      exact ⟨_, rfl, { b := h5.b.trans (b6.mono hz), e11 := fun _ => ⟨v6, L6, rfl, (fun q => absurd q (by decide)), (fun q => absurd q (by decide)), r6, hf, (fun q => absurd q (by decide))⟩,
                       e15 := fun q => by first | exact absurd q (by decide) | (obtain ⟨nb, y1, y2, y3⟩ := h5.e15 (by decide); exact ⟨nb, y1, (b6.block nb (heap_lt y2)).trans y2, y3⟩) }⟩
    refine oblsH_cons rfl (stepH_call rfl rfl ?_) ?_
    · rintro ξ w5 h5
      have hz := h5.b.size
      refine ⟨57, #[.agg #[.slice va vn vc], .int .i64 a], by clear h5; go_simp, ?_⟩
      refine (rput_calls (H.out.1.rc.below ((Below.refl _ w).drew.trans h5.b)) H.out.2.1 a).mono ?_
      rintro e6 w6 ⟨v6, L6, rfl, r6, b6, f6⟩
      rw [HTE.out.1] at r6
      rw [HTE.out.2]
      have hf : FromOr (.slice va vn vc) L w.drew.heap.size v6 L6 := by
        rcases f6 with q | q
        · exact .inl q
        · exact .inr (q.mono hz)
      exact ⟨_, rfl, { b := h5.b.trans (b6.mono hz), e11 := fun _ => ⟨v6, L6, rfl, (fun q => absurd q (by decide)), (fun q => absurd q (by decide)), r6, hf, (fun q => absurd q (by decide))⟩,
                       e15 := fun q => by first | exact absurd q (by decide) | (obtain ⟨nb, y1, y2, y3⟩ := h5.e15 (by decide); exact ⟨nb, y1, (b6.block nb (heap_lt y2)).trans y2, y3⟩) }⟩
    refine oblsH_cons rfl (stepH_make rfl rfl ?_) ?_
    · rintro ξ w5 h5
      obtain ⟨v6, L6, y11, y12, y13, r6, f6, -⟩ := h5.e11 (by decide)
      have x := y11
      refine ⟨.tuple #[.agg #[v6], .int .i64 E], w5, ?_, { b := h5.b, e11 := fun _ => ⟨v6, L6, y11, (fun q => by first | rfl | exact y12 (by decide) | exact absurd q (by decide)), (fun q => by first | rfl | exact y13 (by decide) | exact absurd q (by decide)), r6, f6, (fun q => absurd q (by decide))⟩, e15 := fun q => by first | exact absurd q (by decide) | exact h5.e15 (by decide) }⟩
      clear h5 y11 y12 y13 r6 f6
      go_simp
      try rfl
    refine oblsH_cons rfl (stepH_make rfl rfl ?_) ?_
    · rintro ξ w5 h5
      obtain ⟨v6, L6, y11, y12, y13, r6, f6, -⟩ := h5.e11 (by decide)
      have x := y11
      refine ⟨.tuple #[.agg #[v6], .int .i64 E], w5, ?_, { b := h5.b, e11 := fun _ => ⟨v6, L6, y11, (fun q => by first | rfl | exact y12 (by decide) | exact absurd q (by decide)), (fun q => by first | rfl | exact y13 (by decide) | exact absurd q (by decide)), r6, f6, (fun q => absurd q (by decide))⟩, e15 := fun q => by first | exact absurd q (by decide) | exact h5.e15 (by decide) }⟩
      clear h5 y11 y12 y13 r6 f6
      go_simp
      try rfl
    refine oblsH_cons rfl (stepH_make rfl rfl ?_) ?_
    · rintro ξ w5 h5
      obtain ⟨v6, L6, y11, y12, y13, r6, f6, -⟩ := h5.e11 (by decide)
      have x := y12 (by decide)
      refine ⟨.agg #[v6], w5, ?_, { b := h5.b, e11 := fun _ => ⟨v6, L6, y11, (fun q => by first | rfl | exact y12 (by decide) | exact absurd q (by decide)), (fun q => by first | rfl | exact y13 (by decide) | exact absurd q (by decide)), r6, f6, (fun q => absurd q (by decide))⟩, e15 := fun q => by first | exact absurd q (by decide) | exact h5.e15 (by decide) }⟩
      clear h5 y11 y12 y13 r6 f6
      go_simp
      try rfl
    refine oblsH_cons rfl (stepH_make rfl rfl ?_) ?_
    · rintro ξ w5 h5
      obtain ⟨v6, L6, y11, y12, y13, r6, f6, -⟩ := h5.e11 (by decide)
      have x := y12 (by decide)
      refine ⟨.agg #[v6], w5, ?_, { b := h5.b, e11 := fun _ => ⟨v6, L6, y11, (fun q => by first | rfl | exact y12 (by decide) | exact absurd q (by decide)), (fun q => by first | rfl | exact y13 (by decide) | exact absurd q (by decide)), r6, f6, (fun q => absurd q (by decide))⟩, e15 := fun q => by first | exact absurd q (by decide) | exact h5.e15 (by decide) }⟩
      clear h5 y11 y12 y13 r6 f6
      go_simp
      try rfl
    refine oblsH_cons rfl (stepH_value rfl rfl ?_) ?_
    · rintro ξ w5 h5
      obtain ⟨v6, L6, y11, y12, y13, r6, f6, -⟩ := h5.e11 (by decide)
      have x := y12 (by decide)
      clear h5 y11 y12 y13 r6 f6
      go_simp
      rfl
    refine oblsH_cons rfl (stepH_value rfl rfl ?_) ?_
    · rintro ξ w5 h5
      obtain ⟨v6, L6, y11, y12, y13, r6, f6, -⟩ := h5.e11 (by decide)
      have x := y12 (by decide)
      clear h5 y11 y12 y13 r6 f6
      go_simp
      rfl
    refine oblsH_cons rfl (stepH_value rfl rfl ?_) ?_
    · rintro ξ w5 h5
      obtain ⟨v6, L6, y11, y12, y13, r6, f6, -⟩ := h5.e11 (by decide)
      have x := y12 (by decide)
      clear h5 y11 y12 y13 r6 f6
      go_simp
      rfl
    refine oblsH_cons rfl (stepH_value rfl rfl ?_) ?_
    · rintro ξ w5 h5
      obtain ⟨v6, L6, y11, y12, y13, r6, f6, -⟩ := h5.e11 (by decide)
      have x := y12 (by decide)
      clear h5 y11 y12 y13 r6 f6
      go_simp
      rfl
    refine oblsH_cons rfl (stepH_value rfl rfl ?_) ?_
    · rintro ξ w5 h5
      obtain ⟨v6, L6, y11, y12, y13, r6, f6, -⟩ := h5.e11 (by decide)
      have x := y12 (by decide)
      clear h5 y11 y12 y13 r6 f6
      go_simp
      rfl
    refine oblsH_cons rfl (stepH_make rfl rfl ?_) ?_
    · rintro ξ w5 h5
      have hB : Below w5.heap.size w5 (w5.alloc (.cells #[.slice none 0 0] 59)) := (Below.refl _ w5).alloc (Nat.le_refl _) _
      have hz := h5.b.size
      refine ⟨.pointer (some ⟨w5.heap.size, 0, none⟩), w5.alloc (.cells #[.slice none 0 0] 59), ?_, { b := h5.b.trans (hB.mono hz), e11 := fun q => by first | exact absurd q (by decide) | (obtain ⟨v6, L6, y11, y12, y13, r6, f6, -⟩ := h5.e11 (by decide); exact ⟨v6, L6, y11, (fun q => by first | exact y12 (by decide) | exact absurd q (by decide)), (fun q => by first | exact y13 (by decide) | exact absurd q (by decide)), r6.below hB, f6, (fun q => absurd q (by decide))⟩), e15 := fun _ => ⟨w5.heap.size, rfl, heap_alloc_new w5 _, hz⟩ }⟩
      clear h5 hB hz
      go_simp
      try rfl
    refine oblsH_cons rfl (stepH_make rfl rfl ?_) ?_
    · rintro ξ w5 h5
      have hB : Below w5.heap.size w5 (w5.alloc (.cells #[.slice none 0 0] 59)) := (Below.refl _ w5).alloc (Nat.le_refl _) _
      have hz := h5.b.size
      refine ⟨.pointer (some ⟨w5.heap.size, 0, none⟩), w5.alloc (.cells #[.slice none 0 0] 59), ?_, { b := h5.b.trans (hB.mono hz), e11 := fun q => by first | exact absurd q (by decide) | (obtain ⟨v6, L6, y11, y12, y13, r6, f6, -⟩ := h5.e11 (by decide); exact ⟨v6, L6, y11, (fun q => by first | exact y12 (by decide) | exact absurd q (by decide)), (fun q => by first | exact y13 (by decide) | exact absurd q (by decide)), r6.below hB, f6, (fun q => absurd q (by decide))⟩), e15 := fun _ => ⟨w5.heap.size, rfl, heap_alloc_new w5 _, hz⟩ }⟩
      clear h5 hB hz
      go_simp
      try rfl
    refine oblsH_cons rfl (stepH_make rfl rfl ?_) ?_
    · rintro ξ w5 h5
      have hB : Below w5.heap.size w5 (w5.alloc (.cells #[.slice none 0 0] 59)) := (Below.refl _ w5).alloc (Nat.le_refl _) _
      have hz := h5.b.size
      refine ⟨.pointer (some ⟨w5.heap.size, 0, none⟩), w5.alloc (.cells #[.slice none 0 0] 59), ?_, { b := h5.b.trans (hB.mono hz), e11 := fun q => by first | exact absurd q (by decide) | (obtain ⟨v6, L6, y11, y12, y13, r6, f6, -⟩ := h5.e11 (by decide); exact ⟨v6, L6, y11, (fun q => by first | exact y12 (by decide) | exact absurd q (by decide)), (fun q => by first | exact y13 (by decide) | exact absurd q (by decide)), r6.below hB, f6, (fun q => absurd q (by decide))⟩), e15 := fun _ => ⟨w5.heap.size, rfl, heap_alloc_new w5 _, hz⟩ }⟩
      clear h5 hB hz
      go_simp
      try rfl
    refine oblsH_cons rfl (stepH_make rfl rfl ?_) ?_
    · rintro ξ w5 h5
      have hB : Below w5.heap.size w5 (w5.alloc (.cells #[.slice none 0 0] 59)) := (Below.refl _ w5).alloc (Nat.le_refl _) _
      have hz := h5.b.size
      refine ⟨.pointer (some ⟨w5.heap.size, 0, none⟩), w5.alloc (.cells #[.slice none 0 0] 59), ?_, { b := h5.b.trans (hB.mono hz), e11 := fun q => by first | exact absurd q (by decide) | (obtain ⟨v6, L6, y11, y12, y13, r6, f6, -⟩ := h5.e11 (by decide); exact ⟨v6, L6, y11, (fun q => by first | exact y12 (by decide) | exact absurd q (by decide)), (fun q => by first | exact y13 (by decide) | exact absurd q (by decide)), r6.below hB, f6, (fun q => absurd q (by decide))⟩), e15 := fun _ => ⟨w5.heap.size, rfl, heap_alloc_new w5 _, hz⟩ }⟩
      clear h5 hB hz
      go_simp
      try rfl
    refine oblsH_cons rfl (stepH_store rfl rfl rfl ?_) ?_
    · rintro ξ w5 h5
      obtain ⟨v6, L6, y11, y12, y13, r6, f6, -⟩ := h5.e11 (by decide)
      obtain ⟨nb, z1, z2, z3⟩ := h5.e15 (by decide)
      obtain ⟨pa, pn, pc, rfl, -⟩ := SliceAt.form r6.ref
      have x13 := y13 (by decide)
      have z1' := z1
      have r0 : w5.cell? ⟨nb, 0, none⟩ = some (.slice none 0 0) := cell_at z2 rfl
      have r1 : w5.frozen? ⟨nb, 0, none⟩ = false := frozen_at z2
      refine ⟨w5.setCell ⟨nb, 0, none⟩ (.slice pa pn pc), ?_, ?_⟩
      · clear h5 y11 y12 y13 r6 f6 z1 z2 z3
        go_simp
      · have t5 : Turn (fun k => k = nb) w5 (w5.setCell ⟨nb, 0, none⟩ (.slice pa pn pc)) := (Turn.refl (fun k => k = nb) w5).setCell (p := ⟨nb, 0, none⟩) (fun _ => rfl) _
        have hbx := r6.box z2
        exact { b := h5.b.setCell (p := ⟨nb, 0, none⟩) z3 _, e11 := fun _ => ⟨_, L6, y11, fun _ => y12 (by decide), fun _ => y13 (by decide), r6.turn t5 (fun k hk e => hbx.1 (by rw [hk, e])) (fun y hy k hk e => hbx.2 y hy (by rw [hk, e])), f6, fun _ => ⟨nb, z1, World.cell?_setCell_same' _ _ _ (by rw [r0]; rfl), z3⟩⟩, e15 := fun q => absurd q (by decide) }
    refine oblsH_cons rfl (stepH_value rfl rfl (fun _ _ _ => rfl)) ?_
    exact oblsH_nil
  case hend3 =>
    rintro ξ w8 h8
    obtain ⟨v6, L6, y11, y12, y13, r6, f6, y8⟩ := h8.e11 (by decide)
    obtain ⟨nb, z1, z2, z3⟩ := y8 rfl
    obtain ⟨pa, pn, pc, rfl, -⟩ := SliceAt.form r6.ref
    rw [z1]
    have hB8 : Below w.heap.size w w8 := (Below.refl _ w).drew.trans h8.b
    have h9 := H.out.1.below hB8
    obtain ⟨d0, d1, d2, d3, d4⟩ := h9.cells
    have hF : (Value.slice pa pn pc = .slice va vn vc ∧ L6 = L) ∨ ∃ N, Sep N (.slice pa pn pc) L6 ∧ (∀ k, (Value.slice (some ⟨gg, goff, none⟩) gn gc).ownBlock = some k → k < N) ∧ (∀ k, (Value.slice oa on oc).ownBlock = some k → k < N) := by
      rcases f6 with q | q
      · exact .inl q
      · exact .inr ⟨_, q, fun k hk => SliceAt.lt H.out.1.gs k hk, fun k hk => SliceAt.lt H.out.1.os k hk⟩
    have h10 := h9.store r6 hF
    have H10 := Lib.hid h10
    clear h8 y11 y12 y13 r6 f6 y8 hF h10 h9 z1 z3 hB8 c0 c1 c2 c3 c4 c5 d1 d2 d3
    go_upto_region 5 with fail
    obtain ⟨w9, hw9⟩ : ∃ w9, w8.setCell ⟨pb, 0, none⟩ (.slice pa pn pc) = w9 := ⟨_, rfl⟩
    rw [hw9]
    have h10 := H10.out
    rw [hw9] at h10
    have HP := Lib.hid h10
    clear h10 H10 hw9 d0 d4 z2
    have hmd : ¬ ((m : Int) < 0 ∨ (q.gave.length : Int) ≤ (m : Int) ∨ q.works.getD m false = false) := by
      have h1 := (List.getElem?_eq_some_iff.1 H.out.2.2.2.2.2.1).1
      have h2 : q.works.getD m false = true := by simp [List.getD, H.out.2.2.2.2.2.2.1]
      rw [h2]
      intro c
      rcases c with c | c | c
      · omega
      · omega
      · cases c
    have hga : q.gave.getD m 0 = a := by simp [List.getD, H.out.2.2.2.2.2.1]
    have hE : E = 0 ∨ E = 180 := by
      rw [← HTE.out.2]
      unfold put
      cases find a q.S with
      | none => exact .inr rfl
      | some i => exact .inl rfl
    have hpM : rputM q m = ({ q with S := T, got := if E = 0 then q.got.map (fun x => if x = a then 0 else x) else q.got }, -E) := by
      unfold rputM
      rw [Int.toNat_natCast, if_neg hmd, hga]
      simp only [HTE.out.1, HTE.out.2]
    have HM := Lib.hid hpM
    clear hmd hga hpM
    rcases hE with rfl | rfl
    · go_wp2_with fail
      have hstart : RPM w0 pb { q with S := T, got := zl a q.got 0 } (.slice pa pn pc) (.slice (some ⟨gg, goff, none⟩) gn gc) (.slice (some ⟨wg, woff, none⟩) wn wc) (.slice oa on oc) L6 w9 := by rw [zl_zero]; exact HP.out
      have HSt := Lib.hid hstart
      clear hstart
      have hon := H.out.2.2.2.2.2.2.2
      have hgot := H.out.2.2.2.1
      have hon2 : on = q.got.length := by omega
      have HON := Lib.hid hon2
      have hon3 : on ≤ 1000 := by omega
      clear hon hgot hon2
      go_loopg [7] (on) (fun k i wx => k ≤ on ∧ i = .int .i64 ((on - k : Nat) : Int) ∧ RPM w0 pb { q with S := T, got := zl a q.got (on - k) } (.slice pa pn pc) (.slice (some ⟨gg, goff, none⟩) gn gc) (.slice (some ⟨wg, woff, none⟩) wn wc) (.slice oa on oc) L6 wx)
      case atStart => exact ⟨Nat.le_refl _, by simp, by rw [Nat.sub_self]; exact HSt.out⟩
      case round =>
        obtain ⟨hk, rfl, h9⟩ := hrel
        obtain ⟨j, hj⟩ : ∃ j, on - gk = j := ⟨_, rfl⟩
        rw [hj] at h9 ⊢
        have r3' : wr.cell? ⟨pb, 3, none⟩ = some (.slice oa on oc) := h9.cells.2.2.2.1
        by_cases hlt : j < on
        · obtain ⟨x, hx⟩ : ∃ x, q.got[j]? = some x := ⟨_, List.getElem?_eq_getElem (by have := HON.out; omega)⟩
          obtain ⟨og, ooff, rfl⟩ := SliceAt.addr h9.os (by omega)
          have r1 : wr.cell? ⟨pb, 1, none⟩ = some (.slice (some ⟨gg, goff, none⟩) gn gc) := h9.cells.2.1
          have r3 : wr.cell? ⟨pb, 3, none⟩ = some (.slice (some ⟨og, ooff, none⟩) on oc) := h9.cells.2.2.2.1
          have r4 : wr.cell? ⟨gg, goff + m, none⟩ = some (.int .i64 a) := SliceAt.cells h9.gs m _ (by unfold icells; rw [List.getElem?_map]; show ((q.gave[m]?).map _) = _; rw [H.out.2.2.2.2.2.1]; rfl)
          have r5 : wr.cell? ⟨og, ooff + j, none⟩ = some (.int .i64 x) := SliceAt.cells h9.os j _ (by unfold icells; rw [List.getElem?_map]; show ((zl a q.got j)[j]?).map _ = _; rw [zl_get hx]; rfl)
          have r6 : wr.frozen? ⟨og, ooff + j, none⟩ = false := SliceAt.frozen h9.os _
          have HJ := Lib.hid (And.intro hj (And.intro hx h9))
          clear hj hx h9 r3'
          by_cases hxa : x = a
          · have hb : (x == a) = true := by simp [hxa]
            have HXA := Lib.hid hxa
            clear hxa
            go_upto_region 9 with fail
            refine wp_region_planG (aF := ?aF9a) [] [[]] 0 [(0, 0, 0), (1, 0, 0), (2, 0, 0), (3, 0, 0), (4, 0, 0), (5, 0, 0), (6, 0, 0), (7, 0, 0), (8, 0, 0), (9, 0, 0), (10, 0, 0), (11, 0, 0), (12, 0, 0), (13, 0, 0), (14, 0, 0)]
              [wr.drew]
              [.pointer (some ⟨pb, 0, none⟩), .pointer (some ⟨pb, 0, none⟩), .pointer (some ⟨pb, 3, none⟩), .slice (some ⟨og, ooff, none⟩) on oc, .int .i64 j, .pointer (some ⟨og, ooff + j, none⟩), .int .i64 x, .pointer (some ⟨pb, 0, none⟩), .pointer (some ⟨pb, 0, none⟩), .pointer (some ⟨pb, 1, none⟩), .slice (some ⟨gg, goff, none⟩) gn gc, .int .i64 m, .pointer (some ⟨gg, goff + m, none⟩), .int .i64 a, .bool true]
              (by kernel_rfl) (by kernel_rfl) ?hF9a rfl rfl rfl ?hob9a ?hend9a
            case hF9a => simp only [putAll, Act.put]; go_simp; rfl
            case hob9a =>
              repeat' (first
                | exact oblsG_nil
                | (refine oblsG_cons rfl rfl rfl ?_ ?_)
                | exact Runs.value rfl rfl rfl
                | (apply Runs.value rfl; (focus (go_simp; try exact rfl)); exact rfl))
            case hend9a =>
              have hs := HJ.out.2.2.set_got (i := j) (u := 0) (by show j < (zl a q.got j).length; rw [zl_length]; have := HON.out; omega)
              have e0 : (zl a q.got j).set j 0 = zl a q.got (j + 1) := by rw [zl_next HJ.out.2.1, if_pos HXA.out]
              have HS := Lib.hid (show RPM w0 pb { q with S := T, got := zl a q.got (j + 1) } (.slice pa pn pc) (.slice (some ⟨gg, goff, none⟩) gn gc) (.slice (some ⟨wg, woff, none⟩) wn wc) (.slice (some ⟨og, ooff, none⟩) on oc) L6 (wr.setCell ⟨og, ooff + j, none⟩ (.int .i64 0)) from by rw [← e0]; exact hs)
              clear hs e0
              go_wp2_with fail
              go_roundg (gk - 1)
              case measure => have := HJ.out.1; omega
              case rel =>
                have hjj := HJ.out.1
                have e3 : on - (gk - 1) = j + 1 := by omega
                rw [e3]
                refine ⟨by omega, by go_num, ?_⟩
                exact HS.out.below ⟨rfl, rfl, rfl, Nat.le_refl _, fun _ _ => rfl⟩
          · have hb : (x == a) = false := by simp [hxa]
            have HXA := Lib.hid hxa
            clear hxa
            go_upto_region 9 with fail
            refine wp_region_planG (aF := ?aF9b) [] [[]] 0 [(0, 0, 0), (1, 0, 0), (2, 0, 0), (3, 0, 0), (4, 0, 0), (5, 0, 0), (6, 0, 0), (7, 0, 0), (8, 0, 0), (9, 0, 0), (10, 0, 0), (11, 0, 0), (12, 0, 0), (13, 0, 0), (14, 0, 0)]
              [wr.drew]
              [.pointer (some ⟨pb, 0, none⟩), .pointer (some ⟨pb, 0, none⟩), .pointer (some ⟨pb, 3, none⟩), .slice (some ⟨og, ooff, none⟩) on oc, .int .i64 j, .pointer (some ⟨og, ooff + j, none⟩), .int .i64 x, .pointer (some ⟨pb, 0, none⟩), .pointer (some ⟨pb, 0, none⟩), .pointer (some ⟨pb, 1, none⟩), .slice (some ⟨gg, goff, none⟩) gn gc, .int .i64 m, .pointer (some ⟨gg, goff + m, none⟩), .int .i64 a, .bool false]
              (by kernel_rfl) (by kernel_rfl) ?hF9b rfl rfl rfl ?hob9b ?hend9b
            case hF9b => simp only [putAll, Act.put]; go_simp; rfl
            case hob9b =>
              repeat' (first
                | exact oblsG_nil
                | (refine oblsG_cons rfl rfl rfl ?_ ?_)
                | exact Runs.value rfl rfl rfl
                | (apply Runs.value rfl; (focus (go_simp; try exact rfl)); exact rfl))
            case hend9b =>
              have e0 : zl a q.got (j + 1) = zl a q.got j := by
                rw [zl_next HJ.out.2.1, if_neg HXA.out]
                exact set_eq_self (zl_get HJ.out.2.1)
              have HS := Lib.hid (show RPM w0 pb { q with S := T, got := zl a q.got (j + 1) } (.slice pa pn pc) (.slice (some ⟨gg, goff, none⟩) gn gc) (.slice (some ⟨wg, woff, none⟩) wn wc) (.slice (some ⟨og, ooff, none⟩) on oc) L6 wr from by rw [e0]; exact HJ.out.2.2)
              clear e0
              go_wp2_with fail
              go_roundg (gk - 1)
              case measure => have := HJ.out.1; omega
              case rel =>
                have hjj := HJ.out.1
                have e3 : on - (gk - 1) = j + 1 := by omega
                rw [e3]
                refine ⟨by omega, by go_num, ?_⟩
                exact HS.out.below ((Below.refl _ wr).drew)
        · have hje : j = q.got.length := by have := HON.out; omega
          have HJ := Lib.hid (And.intro hje h9)
          clear hje h9
          go_wp2
          go_ret
          unfold PPutPost
          rw [HM.out]
          refine ⟨rfl, .slice pa pn pc, L6, ?_⟩
          have h9 := HJ.out.2
          rw [HJ.out.1, zl_full] at h9
          first | exact h9 | simpa using h9
    · go_wp2
      go_ret
      unfold PPutPost
      rw [HM.out]
      exact ⟨rfl, _, L6, HP.out⟩
end Go.Sto
