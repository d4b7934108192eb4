/-
  The reference player's Grow of the last block, walked.
-/
import Derived.Deep.LoopGhost
import Derived.Test.YtahfoejffibahaaQStoRPlayPut
set_option linter.unusedVariables false

namespace Go.Sto
open Go.Own Go.RowKit Go.Proofs

def PGrownPost (w0 : World) (pb : Nat) (q : RP) (gv wv ov : Value) (k : Int) (e : Ending) (w' : World) : Prop :=
  e = .returned (.tuple #[.int .i64 (rgrownM q k).2.1, .bool (rgrownM q k).2.2]) ∧ ∃ v' L', RPM w0 pb (rgrownM q k).1 v' gv wv ov L' w'

theorem lastIn_hit {S : St} {got : List Int} {j : Nat} (h : ¬ findV S (got.getD j 0) < 0) : lastIn S got (j + 1) = some j := by
  unfold lastIn
  cases hf : find (got.getD j 0) S with
  | none => rw [findV_none hf] at h; exact absurd (by decide) h
  | some i => rfl
theorem lastIn_miss {S : St} {got : List Int} {j : Nat} (h : findV S (got.getD j 0) < 0) : lastIn S got (j + 1) = lastIn S got j := by
  conv => lhs; unfold lastIn
  cases hf : find (got.getD j 0) S with
  | none => rfl
  | some i => rw [findV_some hf] at h; omega

theorem grow_errno_le {n : Nat} {S : St} (h : Ok n S) (a k : Int) : (grow S a k).2.2 ≤ 180 := by
  cases hf : find a S with
  | none => rw [grow_bad hf]; exact Int.le_refl _
  | some i =>
    by_cases hk : k < 0 ∨ 32000 < k
    · rw [grow_range hf hk]; show (1 : Int) ≤ 180; omega
    · obtain ⟨ws, hx⟩ := U_find hf
      obtain ⟨A, x, B, rfl, hu, e1, e2, hff, hU⟩ := h.split hx
      simp only at e1 e2 hff
      subst e2
      rcases tight_or x B (need k) with hb | ⟨SB, hb⟩
      · rcases get_U h k with ⟨e', he', hne'⟩ | ⟨T2, tt, X, Y, hgt, hU1, hU2, hT, hto, -, -⟩
        · rw [grow_fail hff (by omega) (by omega) hb he' hne']
          have := (get_errno h k).2
          rw [he'] at this
          have t : e' ≤ 2 := this
          show e' ≤ 180
          omega
        · have hmem : (tt, zeros (need k - 1)) ∈ U 0 T2 := by rw [hU2]; simp
          obtain ⟨j, hj⟩ := find_U hT hmem
          rw [grow_moves hff (by omega) (by omega) hb hgt hj]
          show (0 : Int) ≤ 180; omega
      · rw [grow_stays hff (norm_append.1 h.norm).1 (by omega) (by omega) hb]
        show (0 : Int) ≤ 180; omega

/-- The stages of the region of Find. -/
structure P4 (W : World) (F : Int) (s : Nat) (ξ : Nat → Value) (w : World) : Prop where
  b : Below W.heap.size W w
  e : s = 1 → ξ 11 = .int .i64 F

/-- The stages of the region of Grow: 12 the call, 13 its tuple, 14 the store that it gave, 17 a box, 18 the box is written. -/
structure P5 (W : World) (v : Value) (L : List RN) (T : St) (C E : Int) (s : Nat) (ξ : Nat → Value) (w : World) : Prop where
  b : Below W.heap.size W w
  e11 : (s = 1 ∨ 3 ≤ s) → ∃ v' L', ξ 12 = .tuple #[.agg #[v'], .int .i64 C, .int .i64 E] ∧ (s = 3 ∨ 5 ≤ s → ξ 13 = .tuple #[.agg #[v'], .int .i64 C, .int .i64 E]) ∧ (s = 5 ∨ 7 ≤ s → ξ 14 = .agg #[v']) ∧ RC w v' L' T ∧ FromOr v L W.heap.size v' L' ∧
    (s = 8 → ∃ nb, ξ 17 = .pointer (some ⟨nb, 0, none⟩) ∧ w.cell? ⟨nb, 0, none⟩ = some v' ∧ W.heap.size ≤ nb)
  e15 : (s = 2 ∨ s = 4 ∨ s = 6 ∨ s = 7) → ∃ nb, ξ 17 = .pointer (some ⟨nb, 0, none⟩) ∧ w.heap[nb]? = some (.cells #[.slice none 0 0] 59 (0, 0)) ∧ W.heap.size ≤ nb

set_option maxRecDepth 100000 in
set_option maxHeartbeats 4000000 in
theorem rgrown_calls {w0 w : World} {pb : Nat} {q : RP} {v gv wv ov : Value} {L : List RN} {n : Nat} (h : RPM w0 pb q v gv wv ov L w) (ok : Ok n q.S) (hgl : q.got.length ≤ 1000) (k : Int) :
    Calls Try.prog 43 #[.pointer (some ⟨pb, 0, none⟩), .int .i64 k] w (PGrownPost w0 pb q gv wv ov k) := by
  obtain ⟨c0, c1, c2, c3, -⟩ := h.cells
  obtain ⟨va, vn, vc, rfl, -⟩ := SliceAt.form h.rc.ref
  obtain ⟨oa, on, oc, rfl, holn, -⟩ := SliceAt.form h.os
  rw [icells_length] at holn
  have holn : q.got.length = on := by omega
  have hon : on ≤ 1000 := by omega
  have hlast : lastIn q.S q.got q.got.length = lastIn q.S q.got on := by rw [holn]
  have H := Lib.hid (And.intro h (And.intro ok (And.intro hgl (And.intro holn hlast))))
  clear h ok hgl holn hlast c1 c2
  go_enter Try.func43, Try.ntmps43
  go_wp2_with fail
  go_loopg [6] (on) (fun x i wx => x ≤ on ∧ i = .int .i64 ((x : Int) - 1) ∧ Below w.heap.size w wx ∧ lastIn q.S q.got on = lastIn q.S q.got x)
  case atStart => exact ⟨Nat.le_refl _, by go_num, (by exact (Below.refl _ w)), rfl⟩
  case round =>
    obtain ⟨hk, rfl, hb, hla⟩ := hrel
    rcases Nat.eq_zero_or_pos gk with hz | hpos
    · subst hz
      have hla0 : lastIn q.S q.got q.got.length = none := by rw [H.out.2.2.2.2, hla]; rfl
      have e0 : (((0 : Nat) : Int) - 1) = -1 := rfl
      rw [e0]
      have HZ := Lib.hid (And.intro hb hla0)
      clear hb hla0 hla hk
      go_wp2
      go_ret2
      have e : rgrownM q k = (q, 0, false) := by unfold rgrownM; rw [HZ.out.2]
      unfold PGrownPost
      rw [e]
      exact ⟨rfl, _, L, H.out.1.below HZ.out.1⟩
    · obtain ⟨j, rfl⟩ : ∃ j, gk = j + 1 := ⟨gk - 1, by omega⟩
      have e0 : (((j + 1 : Nat) : Int) - 1) = (j : Int) := by omega
      rw [e0]
      have qj : decide (0 ≤ (j : Int)) = true := decide_eq_true (by omega)
      obtain ⟨b, hbj⟩ : ∃ b, q.got[j]? = some b := ⟨_, List.getElem?_eq_getElem (by have := H.out.2.2.2.1; omega)⟩
      obtain ⟨og, ooff, rfl⟩ := SliceAt.addr H.out.1.os (by omega)
      have h9 := H.out.1.below hb
      obtain ⟨r0, -, -, r3, r7⟩ := h9.cells
      have r5 : wr.cell? ⟨og, ooff + j, none⟩ = some (.int .i64 b) := SliceAt.cells h9.os j _ (by unfold icells; rw [List.getElem?_map, hbj]; rfl)
      have r6 : wr.frozen? ⟨og, ooff + j, none⟩ = false := SliceAt.frozen h9.os _
      have hjn : j < on := by omega
      have hgd : q.got.getD j 0 = b := by simp [List.getD, hbj]
      have HJ := Lib.hid (And.intro hb (And.intro hla (And.intro hbj (And.intro hgd h9))))
      have HC := Lib.hid (And.intro (cell_lt r0) (And.intro (cell_lt r3) (cell_lt r5)))
      obtain ⟨F, hF⟩ : ∃ F, findV q.S b = F := ⟨_, rfl⟩
      have HFF := Lib.hid hF
      obtain ⟨bo, hbo⟩ : ∃ bo, decide (F < 0) = bo := ⟨_, rfl⟩
      clear hb hla hbj hgd h9 hk hpos hF
      go_upto_region 4 with fail
      refine wp_region_planH (aX := ?aX4) [11] [[], [11]] 1 [(0, 0, 0), (0, 1, 1), (1, 0, 0), (2, 0, 0), (3, 0, 0), (4, 0, 0), (4, 1, 1), (5, 0, 0), (5, 1, 1), (6, 0, 0), (6, 1, 1), (7, 0, 0), (8, 0, 0), (9, 0, 0), (10, 0, 0), (11, 0, 1), (12, 1, 1)]
        [.pointer (some ⟨pb, 0, none⟩), .pointer (some ⟨pb, 0, none⟩), .pointer (some ⟨pb, 0, none⟩), .agg #[.slice va vn vc], .pointer (some ⟨pb, 0, none⟩), .pointer (some ⟨pb, 0, none⟩), .pointer (some ⟨pb, 3, none⟩), .slice (some ⟨og, ooff, none⟩) on oc, .int .i64 j, .pointer (some ⟨og, ooff + j, none⟩), .int .i64 b, undef, .bool bo]
        (P4 wr.drew F) (by kernel_rfl) (by kernel_rfl) rfl ?hX4 (fun _ => undef) ?h04 ?hob4 ?hend4
      case hX4 => intro ξ; simp only [mixAll, Act.put]; go_simp; rfl
      case h04 => exact ⟨Below.refl _ _, fun q => absurd q (by decide)⟩
      case hob4 =>
        refine oblsH_cons rfl (stepH_value rfl rfl (fun _ _ _ => rfl)) ?_
        refine oblsH_cons rfl (stepH_value rfl rfl (fun _ _ _ => rfl)) ?_
        refine oblsH_cons rfl (stepH_value rfl rfl (fun _ _ _ => rfl)) ?_
        refine oblsH_cons rfl (stepH_value rfl rfl (fun _ _ _ => rfl)) ?_
        refine oblsH_cons rfl (stepH_value rfl rfl ?_) ?_
        · rintro ξ w5 h5
          have x0 := (h5.b.cell (p := ⟨pb, 0, none⟩) HC.out.1).trans r0
          have x3 := (h5.b.cell (p := ⟨pb, 3, none⟩) HC.out.2.1).trans r3
          have x5 := (h5.b.cell (p := ⟨og, ooff + j, none⟩) HC.out.2.2).trans r5
          clear h5
          go_simp
          try rfl
        refine oblsH_cons rfl (stepH_value rfl rfl (fun _ _ _ => rfl)) ?_
        refine oblsH_cons rfl (stepH_value rfl rfl (fun _ _ _ => rfl)) ?_
        refine oblsH_cons rfl (stepH_value rfl rfl (fun _ _ _ => rfl)) ?_
        refine oblsH_cons rfl (stepH_value rfl rfl (fun _ _ _ => rfl)) ?_
        refine oblsH_cons rfl (stepH_value rfl rfl (fun _ _ _ => rfl)) ?_
        refine oblsH_cons rfl (stepH_value rfl rfl (fun _ _ _ => rfl)) ?_
        refine oblsH_cons rfl (stepH_value rfl rfl ?_) ?_
        · rintro ξ w5 h5
          have x0 := (h5.b.cell (p := ⟨pb, 0, none⟩) HC.out.1).trans r0
          have x3 := (h5.b.cell (p := ⟨pb, 3, none⟩) HC.out.2.1).trans r3
          have x5 := (h5.b.cell (p := ⟨og, ooff + j, none⟩) HC.out.2.2).trans r5
          clear h5
          go_simp
          try rfl
        refine oblsH_cons rfl (stepH_value rfl rfl (fun _ _ _ => rfl)) ?_
        refine oblsH_cons rfl (stepH_value rfl rfl ?_) ?_
        · rintro ξ w5 h5
          have x0 := (h5.b.cell (p := ⟨pb, 0, none⟩) HC.out.1).trans r0
          have x3 := (h5.b.cell (p := ⟨pb, 3, none⟩) HC.out.2.1).trans r3
          have x5 := (h5.b.cell (p := ⟨og, ooff + j, none⟩) HC.out.2.2).trans r5
          clear h5
          go_simp
          try rfl
        refine oblsH_cons rfl (stepH_value rfl rfl ?_) ?_
        · rintro ξ w5 h5
          have x0 := (h5.b.cell (p := ⟨pb, 0, none⟩) HC.out.1).trans r0
          have x3 := (h5.b.cell (p := ⟨pb, 3, none⟩) HC.out.2.1).trans r3
          have x5 := (h5.b.cell (p := ⟨og, ooff + j, none⟩) HC.out.2.2).trans r5
          clear h5
          go_simp
          try rfl
        refine oblsH_cons rfl (stepH_call rfl rfl ?_) ?_
        · rintro ξ w5 h5
          have hz := h5.b.size
          refine ⟨70, #[.agg #[.slice va vn vc], .int .i64 b], by clear h5; go_simp, ?_⟩
          refine (rfind_calls (HJ.out.2.2.2.2.rc.below ((Below.refl _ wr).drew.trans h5.b)) H.out.2.1.slen.2.1 H.out.2.1.slen.1 b).mono ?_
          rintro e6 w6 ⟨rfl, b6⟩
          exact ⟨_, rfl, { b := h5.b.trans (b6.mono hz), e := fun _ => by rw [← HFF.out]; rfl }⟩
        refine oblsH_cons rfl (stepH_value rfl rfl ?_) ?_
        · rintro ξ w5 h5
          have x := h5.e rfl
          clear h5
          go_simp
          try rfl
        exact oblsH_nil
      case hend4 =>
        rintro ξ w8 h8
        have hB8 : Below w.heap.size w w8 := (HJ.out.1.trans ((Below.refl _ wr).drew.mono HJ.out.1.size)).trans (h8.b.mono HJ.out.1.size)
        have x11 := h8.e rfl
        have HB8 := Lib.hid (And.intro hB8 h8.b)
        clear hB8 h8
        cases bo
        rotate_left
        · have HN := Lib.hid (of_decide_eq_true hbo)
          clear hbo
          go_wp2_with fail
          go_roundg j
          case measure => omega
          case rel =>
            refine ⟨by omega, by go_num, HB8.out.1, ?_⟩
            rw [HJ.out.2.1]
            exact lastIn_miss (by rw [HJ.out.2.2.2.1, HFF.out]; exact HN.out)
        · have HN := Lib.hid (of_decide_eq_false hbo)
          clear hbo
          have h10 := H.out.1.below HB8.out.1
          obtain ⟨s0, -, -, s3, s7⟩ := h10.cells
          have s5 : w8.cell? ⟨og, ooff + j, none⟩ = some (.int .i64 b) := SliceAt.cells h10.os j _ (by unfold icells; rw [List.getElem?_map, HJ.out.2.2.1]; rfl)
          have H10 := Lib.hid h10
          clear h10
          go_upto_region 5 with fail
          obtain ⟨T, hT⟩ : ∃ T, (grow q.S b k).1 = T := ⟨_, rfl⟩
          obtain ⟨C, hC⟩ : ∃ T, (grow q.S b k).2.1 = T := ⟨_, rfl⟩
          obtain ⟨E, hE⟩ : ∃ T, (grow q.S b k).2.2 = T := ⟨_, rfl⟩
          have HTE := Lib.hid (And.intro hT (And.intro hC hE))
          have HC5 := Lib.hid (And.intro (cell_lt s0) (And.intro (cell_lt s3) (cell_lt s5)))
          clear hT hC hE x11 r0 r3 r5 r6 r7
          refine wp_region_planH (aX := ?aX5) [12, 13, 14, 17, 18] [[], [12], [17], [12, 13], [12, 17], [12, 13, 14], [12, 13, 17], [12, 13, 14, 17], [12, 13, 14, 17, 18]] 8 [(0, 0, 0), (0, 1, 1), (0, 2, 2), (0, 3, 3), (0, 4, 4), (0, 5, 5), (0, 6, 6), (0, 7, 7), (1, 0, 0), (1, 2, 2), (2, 0, 0), (2, 2, 2), (3, 0, 0), (3, 2, 2), (4, 0, 0), (4, 1, 1), (4, 2, 2), (4, 3, 3), (4, 4, 4), (4, 5, 5), (4, 6, 6), (4, 7, 7), (5, 0, 0), (5, 1, 1), (5, 2, 2), (5, 3, 3), (5, 4, 4), (5, 5, 5), (5, 6, 6), (5, 7, 7), (6, 0, 0), (6, 1, 1), (6, 2, 2), (6, 3, 3), (6, 4, 4), (6, 5, 5), (6, 6, 6), (6, 7, 7), (7, 0, 0), (7, 2, 2), (8, 0, 0), (8, 2, 2), (9, 0, 0), (9, 2, 2), (10, 0, 0), (10, 2, 2), (11, 0, 0), (11, 2, 2), (12, 0, 1), (12, 2, 4), (13, 1, 3), (13, 4, 6), (14, 3, 5), (14, 6, 7), (15, 3, 3), (15, 5, 5), (15, 6, 6), (15, 7, 7), (15, 8, 8), (16, 3, 3), (16, 5, 5), (16, 6, 6), (16, 7, 7), (16, 8, 8), (17, 0, 2), (17, 1, 4), (17, 3, 6), (17, 5, 7), (18, 7, 8), (19, 8, 8), (20, 8, 8)]
            [.pointer (some ⟨pb, 0, none⟩), .pointer (some ⟨pb, 0, none⟩), .pointer (some ⟨pb, 0, none⟩), .agg #[.slice va vn vc], .pointer (some ⟨pb, 0, none⟩), .pointer (some ⟨pb, 0, none⟩), .pointer (some ⟨pb, 3, none⟩), .slice (some ⟨og, ooff, none⟩) on oc, .int .i64 j, .pointer (some ⟨og, ooff + j, none⟩), .int .i64 b, .int .i64 k, undef, undef, undef, .int .i64 C, .int .i64 E, undef, undef, .int .i64 C, .int .i64 E]
            (P5 w8.drew (.slice va vn vc) L T C E) (by kernel_rfl) (by kernel_rfl) rfl ?hX5 (fun _ => undef) ?h05 ?hob5 ?hend5
          case hX5 => intro ξ; simp only [mixAll, Act.put]; go_simp; rfl
          case h05 => exact ⟨Below.refl _ _, fun q => absurd q (by decide), fun q => absurd q (by decide)⟩
          case hob5 =>
            refine oblsH_cons rfl (stepH_value rfl rfl (fun _ _ _ => rfl)) ?_
            refine oblsH_cons rfl (stepH_value rfl rfl (fun _ _ _ => rfl)) ?_
            refine oblsH_cons rfl (stepH_value rfl rfl (fun _ _ _ => rfl)) ?_
            refine oblsH_cons rfl (stepH_value rfl rfl (fun _ _ _ => rfl)) ?_
            refine oblsH_cons rfl (stepH_value rfl rfl (fun _ _ _ => rfl)) ?_
            refine oblsH_cons rfl (stepH_value rfl rfl (fun _ _ _ => rfl)) ?_
            refine oblsH_cons rfl (stepH_value rfl rfl (fun _ _ _ => rfl)) ?_
            refine oblsH_cons rfl (stepH_value rfl rfl (fun _ _ _ => rfl)) ?_
            refine oblsH_cons rfl (stepH_value rfl rfl (fun _ _ _ => rfl)) ?_
            refine oblsH_cons rfl (stepH_value rfl rfl (fun _ _ _ => rfl)) ?_
            refine oblsH_cons rfl (stepH_value rfl rfl (fun _ _ _ => rfl)) ?_
            refine oblsH_cons rfl (stepH_value rfl rfl (fun _ _ _ => rfl)) ?_
            refine oblsH_cons rfl (stepH_value rfl rfl ?_) ?_
            · rintro ξ w5 h5
              have x0 := (h5.b.cell (p := ⟨pb, 0, none⟩) HC5.out.1).trans s0
              have x3 := (h5.b.cell (p := ⟨pb, 3, none⟩) HC5.out.2.1).trans s3
              have x5 := (h5.b.cell (p := ⟨og, ooff + j, none⟩) HC5.out.2.2).trans s5
              clear h5
              go_simp
              try rfl
            refine oblsH_cons rfl (stepH_value rfl rfl ?_) ?_
            · rintro ξ w5 h5
              have x0 := (h5.b.cell (p := ⟨pb, 0, none⟩) HC5.out.1).trans s0
              have x3 := (h5.b.cell (p := ⟨pb, 3, none⟩) HC5.out.2.1).trans s3
              have x5 := (h5.b.cell (p := ⟨og, ooff + j, none⟩) HC5.out.2.2).trans s5
              clear h5
              go_simp
              try rfl
            refine oblsH_cons rfl (stepH_value rfl rfl (fun _ _ _ => rfl)) ?_
            refine oblsH_cons rfl (stepH_value rfl rfl (fun _ _ _ => rfl)) ?_
            refine oblsH_cons rfl (stepH_value rfl rfl (fun _ _ _ => rfl)) ?_
            refine oblsH_cons rfl (stepH_value rfl rfl (fun _ _ _ => rfl)) ?_
            refine oblsH_cons rfl (stepH_value rfl rfl (fun _ _ _ => rfl)) ?_
            refine oblsH_cons rfl (stepH_value rfl rfl (fun _ _ _ => rfl)) ?_
            refine oblsH_cons rfl (stepH_value rfl rfl (fun _ _ _ => rfl)) ?_
            refine oblsH_cons rfl (stepH_value rfl rfl (fun _ _ _ => rfl)) ?_
            refine oblsH_cons rfl (stepH_value rfl rfl (fun _ _ _ => rfl)) ?_
            refine oblsH_cons rfl (stepH_value rfl rfl (fun _ _ _ => rfl)) ?_
            refine oblsH_cons rfl (stepH_value rfl rfl (fun _ _ _ => rfl)) ?_
            refine oblsH_cons rfl (stepH_value rfl rfl (fun _ _ _ => rfl)) ?_
            refine oblsH_cons rfl (stepH_value rfl rfl (fun _ _ _ => rfl)) ?_
            refine oblsH_cons rfl (stepH_value rfl rfl (fun _ _ _ => rfl)) ?_
            refine oblsH_cons rfl (stepH_value rfl rfl (fun _ _ _ => rfl)) ?_
            refine oblsH_cons rfl (stepH_value rfl rfl (fun _ _ _ => rfl)) ?_
            refine oblsH_cons rfl (stepH_value rfl rfl (fun _ _ _ => rfl)) ?_
            refine oblsH_cons rfl (stepH_value rfl rfl (fun _ _ _ => rfl)) ?_
            refine oblsH_cons rfl (stepH_value rfl rfl (fun _ _ _ => rfl)) ?_
            refine oblsH_cons rfl (stepH_value rfl rfl (fun _ _ _ => rfl)) ?_
            refine oblsH_cons rfl (stepH_value rfl rfl (fun _ _ _ => rfl)) ?_
            refine oblsH_cons rfl (stepH_value rfl rfl (fun _ _ _ => rfl)) ?_
            refine oblsH_cons rfl (stepH_value rfl rfl (fun _ _ _ => rfl)) ?_
            refine oblsH_cons rfl (stepH_value rfl rfl (fun _ _ _ => rfl)) ?_
            refine oblsH_cons rfl (stepH_value rfl rfl ?_) ?_
            · rintro ξ w5 h5
              have x0 := (h5.b.cell (p := ⟨pb, 0, none⟩) HC5.out.1).trans s0
              have x3 := (h5.b.cell (p := ⟨pb, 3, none⟩) HC5.out.2.1).trans s3
              have x5 := (h5.b.cell (p := ⟨og, ooff + j, none⟩) HC5.out.2.2).trans s5
              clear h5
              go_simp
              try rfl
            refine oblsH_cons rfl (stepH_value rfl rfl ?_) ?_
            · rintro ξ w5 h5
              have x0 := (h5.b.cell (p := ⟨pb, 0, none⟩) HC5.out.1).trans s0
              have x3 := (h5.b.cell (p := ⟨pb, 3, none⟩) HC5.out.2.1).trans s3
              have x5 := (h5.b.cell (p := ⟨og, ooff + j, none⟩) HC5.out.2.2).trans s5
              clear h5
              go_simp
              try rfl
            refine oblsH_cons rfl (stepH_value rfl rfl (fun _ _ _ => rfl)) ?_
            refine oblsH_cons rfl (stepH_value rfl rfl (fun _ _ _ => rfl)) ?_
            refine oblsH_cons rfl (stepH_value rfl rfl ?_) ?_
            · rintro ξ w5 h5
              have x0 := (h5.b.cell (p := ⟨pb, 0, none⟩) HC5.out.1).trans s0
              have x3 := (h5.b.cell (p := ⟨pb, 3, none⟩) HC5.out.2.1).trans s3
              have x5 := (h5.b.cell (p := ⟨og, ooff + j, none⟩) HC5.out.2.2).trans s5
              clear h5
              go_simp
              try rfl
            refine oblsH_cons rfl (stepH_value rfl rfl ?_) ?_
            · rintro ξ w5 h5
              have x0 := (h5.b.cell (p := ⟨pb, 0, none⟩) HC5.out.1).trans s0
              have x3 := (h5.b.cell (p := ⟨pb, 3, none⟩) HC5.out.2.1).trans s3
              have x5 := (h5.b.cell (p := ⟨og, ooff + j, none⟩) HC5.out.2.2).trans s5
              clear h5
              go_simp
              try rfl
            refine oblsH_cons rfl (stepH_value rfl rfl ?_) ?_
            · rintro ξ w5 h5
              have x0 := (h5.b.cell (p := ⟨pb, 0, none⟩) HC5.out.1).trans s0
              have x3 := (h5.b.cell (p := ⟨pb, 3, none⟩) HC5.out.2.1).trans s3
              have x5 := (h5.b.cell (p := ⟨og, ooff + j, none⟩) HC5.out.2.2).trans s5
              clear h5
              go_simp
              try rfl
            refine oblsH_cons rfl (stepH_value rfl rfl ?_) ?_
            · rintro ξ w5 h5
              have x0 := (h5.b.cell (p := ⟨pb, 0, none⟩) HC5.out.1).trans s0
              have x3 := (h5.b.cell (p := ⟨pb, 3, none⟩) HC5.out.2.1).trans s3
              have x5 := (h5.b.cell (p := ⟨og, ooff + j, none⟩) HC5.out.2.2).trans s5
              clear h5
              go_simp
              try rfl
            refine oblsH_cons rfl (stepH_value rfl rfl (fun _ _ _ => rfl)) ?_
            refine oblsH_cons rfl (stepH_value rfl rfl (fun _ _ _ => rfl)) ?_
            refine oblsH_cons rfl (stepH_call rfl rfl ?_) ?_
            · rintro ξ w5 h5
              have hz := h5.b.size
              refine ⟨58, #[.agg #[.slice va vn vc], .int .i64 b, .int .i64 k], by clear h5; go_simp, ?_⟩
              refine (rgrow_calls (H10.out.rc.below ((Below.refl _ w8).drew.trans h5.b)) H.out.2.1 b k).mono ?_
              rintro e6 w6 ⟨v6, L6, rfl, r6, b6, f6⟩
              rw [HTE.out.1] at r6
              rw [HTE.out.2.1, HTE.out.2.2]
              have hf : FromOr (.slice va vn vc) L w8.drew.heap.size v6 L6 := by
                rcases f6 with q | q
                · exact .inl q
                · exact .inr (q.mono hz)
              exact ⟨_, rfl, { b := h5.b.trans (b6.mono hz), e11 := fun _ => ⟨v6, L6, rfl, (fun q => absurd q (by decide)), (fun q => absurd q (by decide)), r6, hf, (fun q => absurd q (by decide))⟩,
                               e15 := fun q => by first | exact absurd q (by decide) | (obtain ⟨nb, y1, y2, y3⟩ := h5.e15 (by decide); exact ⟨nb, y1, (b6.block nb (heap_lt y2)).trans y2, y3⟩) }⟩
            refine oblsH_cons rfl (stepH_call rfl rfl ?_) ?_
            · rintro ξ w5 h5
              have hz := h5.b.size
              refine ⟨58, #[.agg #[.slice va vn vc], .int .i64 b, .int .i64 k], by clear h5; go_simp, ?_⟩
              refine (rgrow_calls (H10.out.rc.below ((Below.refl _ w8).drew.trans h5.b)) H.out.2.1 b k).mono ?_
              rintro e6 w6 ⟨v6, L6, rfl, r6, b6, f6⟩
              rw [HTE.out.1] at r6
              rw [HTE.out.2.1, HTE.out.2.2]
              have hf : FromOr (.slice va vn vc) L w8.drew.heap.size v6 L6 := by
                rcases f6 with q | q
                · exact .inl q
                · exact .inr (q.mono hz)
              exact ⟨_, rfl, { b := h5.b.trans (b6.mono hz), e11 := fun _ => ⟨v6, L6, rfl, (fun q => absurd q (by decide)), (fun q => absurd q (by decide)), r6, hf, (fun q => absurd q (by decide))⟩,
                               e15 := fun q => by first | exact absurd q (by decide) | (obtain ⟨nb, y1, y2, y3⟩ := h5.e15 (by decide); exact ⟨nb, y1, (b6.block nb (heap_lt y2)).trans y2, y3⟩) }⟩
            refine oblsH_cons rfl (stepH_make rfl rfl ?_) ?_
            · rintro ξ w5 h5
              obtain ⟨v6, L6, y11, y12, y13, r6, f6, -⟩ := h5.e11 (by decide)
              have x := y11
              refine ⟨.tuple #[.agg #[v6], .int .i64 C, .int .i64 E], w5, ?_, { b := h5.b, e11 := fun _ => ⟨v6, L6, y11, (fun q => by first | rfl | exact y12 (by decide) | exact absurd q (by decide)), (fun q => by first | rfl | exact y13 (by decide) | exact absurd q (by decide)), r6, f6, (fun q => absurd q (by decide))⟩, e15 := fun q => by first | exact absurd q (by decide) | exact h5.e15 (by decide) }⟩
              clear h5 y11 y12 y13 r6 f6
              go_simp
              try rfl
            refine oblsH_cons rfl (stepH_make rfl rfl ?_) ?_
            · rintro ξ w5 h5
              obtain ⟨v6, L6, y11, y12, y13, r6, f6, -⟩ := h5.e11 (by decide)
              have x := y11
              refine ⟨.tuple #[.agg #[v6], .int .i64 C, .int .i64 E], w5, ?_, { b := h5.b, e11 := fun _ => ⟨v6, L6, y11, (fun q => by first | rfl | exact y12 (by decide) | exact absurd q (by decide)), (fun q => by first | rfl | exact y13 (by decide) | exact absurd q (by decide)), r6, f6, (fun q => absurd q (by decide))⟩, e15 := fun q => by first | exact absurd q (by decide) | exact h5.e15 (by decide) }⟩
              clear h5 y11 y12 y13 r6 f6
              go_simp
              try rfl
            refine oblsH_cons rfl (stepH_make rfl rfl ?_) ?_
            · rintro ξ w5 h5
              obtain ⟨v6, L6, y11, y12, y13, r6, f6, -⟩ := h5.e11 (by decide)
              have x := y12 (by decide)
              refine ⟨.agg #[v6], w5, ?_, { b := h5.b, e11 := fun _ => ⟨v6, L6, y11, (fun q => by first | rfl | exact y12 (by decide) | exact absurd q (by decide)), (fun q => by first | rfl | exact y13 (by decide) | exact absurd q (by decide)), r6, f6, (fun q => absurd q (by decide))⟩, e15 := fun q => by first | exact absurd q (by decide) | exact h5.e15 (by decide) }⟩
              clear h5 y11 y12 y13 r6 f6
              go_simp
              try rfl
            refine oblsH_cons rfl (stepH_make rfl rfl ?_) ?_
            · rintro ξ w5 h5
              obtain ⟨v6, L6, y11, y12, y13, r6, f6, -⟩ := h5.e11 (by decide)
              have x := y12 (by decide)
              refine ⟨.agg #[v6], w5, ?_, { b := h5.b, e11 := fun _ => ⟨v6, L6, y11, (fun q => by first | rfl | exact y12 (by decide) | exact absurd q (by decide)), (fun q => by first | rfl | exact y13 (by decide) | exact absurd q (by decide)), r6, f6, (fun q => absurd q (by decide))⟩, e15 := fun q => by first | exact absurd q (by decide) | exact h5.e15 (by decide) }⟩
              clear h5 y11 y12 y13 r6 f6
              go_simp
              try rfl
            refine oblsH_cons rfl (stepH_value rfl rfl ?_) ?_
            · rintro ξ w5 h5
              obtain ⟨v6, L6, y11, y12, y13, r6, f6, -⟩ := h5.e11 (by decide)
              have x := y12 (by decide)
              clear h5 y11 y12 y13 r6 f6
              go_simp
              rfl
            refine oblsH_cons rfl (stepH_value rfl rfl ?_) ?_
            · rintro ξ w5 h5
              obtain ⟨v6, L6, y11, y12, y13, r6, f6, -⟩ := h5.e11 (by decide)
              have x := y12 (by decide)
              clear h5 y11 y12 y13 r6 f6
              go_simp
              rfl
            refine oblsH_cons rfl (stepH_value rfl rfl ?_) ?_
            · rintro ξ w5 h5
              obtain ⟨v6, L6, y11, y12, y13, r6, f6, -⟩ := h5.e11 (by decide)
              have x := y12 (by decide)
              clear h5 y11 y12 y13 r6 f6
              go_simp
              rfl
            refine oblsH_cons rfl (stepH_value rfl rfl ?_) ?_
            · rintro ξ w5 h5
              obtain ⟨v6, L6, y11, y12, y13, r6, f6, -⟩ := h5.e11 (by decide)
              have x := y12 (by decide)
              clear h5 y11 y12 y13 r6 f6
              go_simp
              rfl
            refine oblsH_cons rfl (stepH_value rfl rfl ?_) ?_
            · rintro ξ w5 h5
              obtain ⟨v6, L6, y11, y12, y13, r6, f6, -⟩ := h5.e11 (by decide)
              have x := y12 (by decide)
              clear h5 y11 y12 y13 r6 f6
              go_simp
              rfl
            refine oblsH_cons rfl (stepH_value rfl rfl ?_) ?_
            · rintro ξ w5 h5
              obtain ⟨v6, L6, y11, y12, y13, r6, f6, -⟩ := h5.e11 (by decide)
              have x := y12 (by decide)
              clear h5 y11 y12 y13 r6 f6
              go_simp
              rfl
            refine oblsH_cons rfl (stepH_value rfl rfl ?_) ?_
            · rintro ξ w5 h5
              obtain ⟨v6, L6, y11, y12, y13, r6, f6, -⟩ := h5.e11 (by decide)
              have x := y12 (by decide)
              clear h5 y11 y12 y13 r6 f6
              go_simp
              rfl
            refine oblsH_cons rfl (stepH_value rfl rfl ?_) ?_
            · rintro ξ w5 h5
              obtain ⟨v6, L6, y11, y12, y13, r6, f6, -⟩ := h5.e11 (by decide)
              have x := y12 (by decide)
              clear h5 y11 y12 y13 r6 f6
              go_simp
              rfl
            refine oblsH_cons rfl (stepH_value rfl rfl ?_) ?_
            · rintro ξ w5 h5
              obtain ⟨v6, L6, y11, y12, y13, r6, f6, -⟩ := h5.e11 (by decide)
              have x := y12 (by decide)
              clear h5 y11 y12 y13 r6 f6
              go_simp
              rfl
            refine oblsH_cons rfl (stepH_value rfl rfl ?_) ?_
            · rintro ξ w5 h5
              obtain ⟨v6, L6, y11, y12, y13, r6, f6, -⟩ := h5.e11 (by decide)
              have x := y12 (by decide)
              clear h5 y11 y12 y13 r6 f6
              go_simp
              rfl
            refine oblsH_cons rfl (stepH_make rfl rfl ?_) ?_
            · rintro ξ w5 h5
              have hB : Below w5.heap.size w5 (w5.alloc (.cells #[.slice none 0 0] 59)) := (Below.refl _ w5).alloc (Nat.le_refl _) _
              have hz := h5.b.size
              refine ⟨.pointer (some ⟨w5.heap.size, 0, none⟩), w5.alloc (.cells #[.slice none 0 0] 59), ?_, { b := h5.b.trans (hB.mono hz), e11 := fun q => by first | exact absurd q (by decide) | (obtain ⟨v6, L6, y11, y12, y13, r6, f6, -⟩ := h5.e11 (by decide); exact ⟨v6, L6, y11, (fun q => by first | exact y12 (by decide) | exact absurd q (by decide)), (fun q => by first | exact y13 (by decide) | exact absurd q (by decide)), r6.below hB, f6, (fun q => absurd q (by decide))⟩), e15 := fun _ => ⟨w5.heap.size, rfl, heap_alloc_new w5 _, hz⟩ }⟩
              clear h5 hB hz
              go_simp
              try rfl
            refine oblsH_cons rfl (stepH_make rfl rfl ?_) ?_
            · rintro ξ w5 h5
              have hB : Below w5.heap.size w5 (w5.alloc (.cells #[.slice none 0 0] 59)) := (Below.refl _ w5).alloc (Nat.le_refl _) _
              have hz := h5.b.size
              refine ⟨.pointer (some ⟨w5.heap.size, 0, none⟩), w5.alloc (.cells #[.slice none 0 0] 59), ?_, { b := h5.b.trans (hB.mono hz), e11 := fun q => by first | exact absurd q (by decide) | (obtain ⟨v6, L6, y11, y12, y13, r6, f6, -⟩ := h5.e11 (by decide); exact ⟨v6, L6, y11, (fun q => by first | exact y12 (by decide) | exact absurd q (by decide)), (fun q => by first | exact y13 (by decide) | exact absurd q (by decide)), r6.below hB, f6, (fun q => absurd q (by decide))⟩), e15 := fun _ => ⟨w5.heap.size, rfl, heap_alloc_new w5 _, hz⟩ }⟩
              clear h5 hB hz
              go_simp
              try rfl
            refine oblsH_cons rfl (stepH_make rfl rfl ?_) ?_
            · rintro ξ w5 h5
              have hB : Below w5.heap.size w5 (w5.alloc (.cells #[.slice none 0 0] 59)) := (Below.refl _ w5).alloc (Nat.le_refl _) _
              have hz := h5.b.size
              refine ⟨.pointer (some ⟨w5.heap.size, 0, none⟩), w5.alloc (.cells #[.slice none 0 0] 59), ?_, { b := h5.b.trans (hB.mono hz), e11 := fun q => by first | exact absurd q (by decide) | (obtain ⟨v6, L6, y11, y12, y13, r6, f6, -⟩ := h5.e11 (by decide); exact ⟨v6, L6, y11, (fun q => by first | exact y12 (by decide) | exact absurd q (by decide)), (fun q => by first | exact y13 (by decide) | exact absurd q (by decide)), r6.below hB, f6, (fun q => absurd q (by decide))⟩), e15 := fun _ => ⟨w5.heap.size, rfl, heap_alloc_new w5 _, hz⟩ }⟩
              clear h5 hB hz
              go_simp
              try rfl
            refine oblsH_cons rfl (stepH_make rfl rfl ?_) ?_
            · rintro ξ w5 h5
              have hB : Below w5.heap.size w5 (w5.alloc (.cells #[.slice none 0 0] 59)) := (Below.refl _ w5).alloc (Nat.le_refl _) _
              have hz := h5.b.size
              refine ⟨.pointer (some ⟨w5.heap.size, 0, none⟩), w5.alloc (.cells #[.slice none 0 0] 59), ?_, { b := h5.b.trans (hB.mono hz), e11 := fun q => by first | exact absurd q (by decide) | (obtain ⟨v6, L6, y11, y12, y13, r6, f6, -⟩ := h5.e11 (by decide); exact ⟨v6, L6, y11, (fun q => by first | exact y12 (by decide) | exact absurd q (by decide)), (fun q => by first | exact y13 (by decide) | exact absurd q (by decide)), r6.below hB, f6, (fun q => absurd q (by decide))⟩), e15 := fun _ => ⟨w5.heap.size, rfl, heap_alloc_new w5 _, hz⟩ }⟩
              clear h5 hB hz
              go_simp
              try rfl
            refine oblsH_cons rfl (stepH_store rfl rfl rfl ?_) ?_
            · rintro ξ w5 h5
              obtain ⟨v6, L6, y11, y12, y13, r6, f6, -⟩ := h5.e11 (by decide)
              obtain ⟨nb, z1, z2, z3⟩ := h5.e15 (by decide)
              obtain ⟨pa, pn, pc, rfl, -⟩ := SliceAt.form r6.ref
              have x13 := y13 (by decide)
              have z1' := z1
              have r0 : w5.cell? ⟨nb, 0, none⟩ = some (.slice none 0 0) := cell_at z2 rfl
              have r1 : w5.frozen? ⟨nb, 0, none⟩ = false := frozen_at z2
              refine ⟨w5.setCell ⟨nb, 0, none⟩ (.slice pa pn pc), ?_, ?_⟩
              · clear h5 y11 y12 y13 r6 f6 z1 z2 z3
                go_simp
              · have t5 : Turn (fun k => k = nb) w5 (w5.setCell ⟨nb, 0, none⟩ (.slice pa pn pc)) := (Turn.refl (fun k => k = nb) w5).setCell (p := ⟨nb, 0, none⟩) (fun _ => rfl) _
                have hbx := r6.box z2
                exact { b := h5.b.setCell (p := ⟨nb, 0, none⟩) z3 _, e11 := fun _ => ⟨_, L6, y11, fun _ => y12 (by decide), fun _ => y13 (by decide), r6.turn t5 (fun k hk e => hbx.1 (by rw [hk, e])) (fun y hy k hk e => hbx.2 y hy (by rw [hk, e])), f6, fun _ => ⟨nb, z1, World.cell?_setCell_same' _ _ _ (by rw [r0]; rfl), z3⟩⟩, e15 := fun q => absurd q (by decide) }
            refine oblsH_cons rfl (stepH_value rfl rfl (fun _ _ _ => rfl)) ?_
            refine oblsH_cons rfl (stepH_value rfl rfl (fun _ _ _ => rfl)) ?_
            exact oblsH_nil
          case hend5 =>
            rintro ξ2 w11 h8
            obtain ⟨v6, L6, y11, y12, y13, r6, f6, y8⟩ := h8.e11 (by decide)
            obtain ⟨nb, z1, z2, z3⟩ := y8 rfl
            obtain ⟨pa, pn, pc, rfl, -⟩ := SliceAt.form r6.ref
            rw [z1]
            have hB8 : Below w8.heap.size w8 w11 := (Below.refl _ w8).drew.trans h8.b
            have h9 := H10.out.below hB8
            obtain ⟨d0, -, -, d3, d4⟩ := h9.cells
            have hF : (Value.slice pa pn pc = .slice va vn vc ∧ L6 = L) ∨ ∃ N, Sep N (.slice pa pn pc) L6 ∧ (∀ k, gv.ownBlock = some k → k < N) ∧ (∀ k, (Value.slice (some ⟨og, ooff, none⟩) on oc).ownBlock = some k → k < N) := by
              rcases f6 with q | q
              · exact .inl q
              · exact .inr ⟨_, q, fun k hk => SliceAt.lt H10.out.gs k hk, fun k hk => SliceAt.lt H10.out.os k hk⟩
            have h12 := h9.store r6 hF
            have h13 := h12.set_got (i := j) (u := C) (by have := H.out.2.2.2.1; show j < q.got.length; omega)
            have H13 := Lib.hid (And.intro h9 (And.intro h12 h13))
            have e1 := H.out.2.2.2.2
            have hr : rgrownM q k = if E ≠ 0 then (q, -E, false) else ({ q with S := T, got := q.got.set j C }, C, true) := by
              unfold rgrownM
              rw [e1, HJ.out.2.1, lastIn_hit (by rw [HJ.out.2.2.2.1, HFF.out]; exact HN.out)]
              simp only [HJ.out.2.2.2.1, HTE.out.1, HTE.out.2.1, HTE.out.2.2]
            have HR := Lib.hid hr
            clear h8 y11 y12 y13 r6 f6 y8 hF h12 h13 h9 z1 z3 hB8 e1 hr s0 s3 s5 s7
            have hEr : 0 ≤ E ∧ E ≤ 180 := by rw [← HTE.out.2.2]; exact ⟨grow_errno H.out.2.1 b k, grow_errno_le H.out.2.1 b k⟩
            by_cases hE0 : E = 0
            · subst hE0
              have HH := Lib.hid hEr
              clear hEr
              go_upto_region 8 with fail
              go_upto_region 9 with fail
              obtain ⟨w12, hw12⟩ : ∃ w12, w11.setCell ⟨pb, 0, none⟩ (.slice pa pn pc) = w12 := ⟨_, rfl⟩
              rw [hw12]
              have h12 := H13.out.2.1
              have h13 := H13.out.2.2
              rw [hw12] at h12 h13
              obtain ⟨-, -, -, t3, -⟩ := h12.cells
              have t6 : w12.frozen? ⟨og, ooff + j, none⟩ = false := SliceAt.frozen h12.os _
              have t5 : w12.cell? ⟨og, ooff + j, none⟩ = some (.int .i64 b) := SliceAt.cells h12.os j _ (by unfold icells; rw [List.getElem?_map]; show (q.got[j]?).map _ = _; rw [HJ.out.2.2.1]; rfl)
              have H14 := Lib.hid h13
              clear h12 h13 d0 d3 d4 z2 hw12
              go_wp2_with fail
              go_ret2
              unfold PGrownPost
              rw [HR.out, if_neg (by decide)]
              exact ⟨rfl, _, L6, H14.out⟩
            · have hb0 : (E == 0) = false := by simp [hE0]
              have hw : wrap64 (-E) = -E := by have := hEr; unfold wrap64; omega
              have HW := Lib.hid (And.intro hE0 (And.intro hEr hw))
              clear hEr hE0 hw
              go_wp2_with fail
              go_ret2
              unfold PGrownPost
              rw [HR.out, if_pos HW.out.1]
              exact ⟨by show Ending.returned (.tuple #[.int .i64 (wrap64 (-E)), .bool false]) = _; rw [HW.out.2.2], _, L, H13.out.1⟩
end Go.Sto
