/-
  A player's call of Grow, walked.
-/
import Derived.StillTailTactics
import Derived.Test.YtahfoejffibahaaQStoDoPut
import Derived.Test.YtahfoejffibahaaQStoGrow2
import Derived.Test.YtahfoejffibahaaQStoRPlayPure
import Derived.Test.YtahfoejffibahaaQStoPlay
set_option linter.unusedVariables false

namespace Go.Sto
open Go.Own Go.RowKit Go.Proofs

theorem grow_errno_le2 {n : Nat} {S : St} (h : Ok n S) (a k : Int) : (grow S a k).2.2 ≤ 180 := by
  cases hf : find a S with
  | none => rw [grow_bad hf]; exact Int.le_refl _
  | some i =>
    by_cases hk : k < 0 ∨ 32000 < k
    · rw [grow_range hf hk]; show (1 : Int) ≤ 180; omega
    · obtain ⟨ws, hx⟩ := U_find hf
      obtain ⟨A, x, B, rfl, hu, e1, e2, hff, hU⟩ := h.split hx
      simp only at e1 e2 hff
      subst e2
      rcases tight_or x B (need k) with hb | ⟨SB, hb⟩
      · rcases get_U h k with ⟨e', he', hne'⟩ | ⟨T2, tt, X, Y, hgt, hU1, hU2, hT, hto, -, -⟩
        · rw [grow_fail hff (by omega) (by omega) hb he' hne']
          have := (get_errno h k).2
          rw [he'] at this
          have t : e' ≤ 2 := this
          show e' ≤ 180
          omega
        · have hmem : (tt, zeros (need k - 1)) ∈ U 0 T2 := by rw [hU2]; simp
          obtain ⟨j, hj⟩ := find_U hT hmem
          rw [grow_moves hff (by omega) (by omega) hb hgt hj]
          show (0 : Int) ≤ 180; omega
      · rw [grow_stays hff (norm_append.1 h.norm).1 (by omega) (by omega) hb]
        show (0 : Int) ≤ 180; omega

theorem dg_wrap (N j : Nat) (h : N = j + 1) (hm : N ≤ 1001) : IntKind.i64.wrap ((N : Int) - 1) = (j : Int) := by
  rw [IntWalk.i64_in _ (by omega)]; omega

theorem dg_set (l1 : List Int) (b C : Int) (j : Nat) (h : l1.length = j) : (icells (l1.concat b)).set j (.int .i64 C) = icells (l1 ++ [C]) := by
  subst h
  unfold icells
  simp [List.concat_eq_append, List.map_append, List.set_append_right]

structure PDG (W : World) (g : Ghost) (T : St) (C E : Int) (s : Nat) (ξ : Nat → Value) (w : World) : Prop where
  b : s = 0 → w = W
  e : s = 1 → ξ 13 = .tuple #[.int .i64 C, .int .i64 E] ∧ ∃ g', Repo g' T w ∧ Step g g' W w

set_option maxRecDepth 100000 in
set_option maxHeartbeats 2000000 in
theorem do_grow {w0 w : World} {g : Ghost} {pb : Nat} {S : St} {m : Lab} {gv tv lv : Value} {gave took live : List Int} (h : PM w0 g pb S m gv tv lv gv tv lv gave took live w) (hl : live.length ≤ 1000) (k : Int) :
    Calls Try.prog 40 #[.pointer (some ⟨pb, 0, none⟩), .int .i64 2, .int .i64 k] w (DoPost w0 g pb gv tv gave took (doM S took live 2 k)) := by
  have c0 : w.cell? ⟨pb, 0, none⟩ = some (.pointer (some ⟨g.s, 0, none⟩)) := cell_at h.blk rfl
  have c3 : w.cell? ⟨pb, 3, none⟩ = some lv := cell_at h.blk rfl
  obtain ⟨la, lc, rfl, hn1, hn2, hcell⟩ := ints_form h.ls.1
  rcases List.eq_nil_or_concat live with hnil | ⟨l1, b, hcat⟩
  · subst hnil
    have fin : DoPost w0 g pb gv tv gave took (doM S took [] 2 k) (.returned (.int .i64 0)) w := ⟨rfl, g, m, _, h, rfl, rfl⟩
    have HF := Lib.hid fin
    clear fin h hcell hn1 hn2 hl
    go_enter Try.func40, Try.ntmps40
    go_wp2
    go_ret
    exact HF.out
  · subst hcat
    have hd : doM S took (l1.concat b) 2 k = ((grow S b k).1, if (grow S b k).2.2 = 0 then l1 ++ [(grow S b k).2.1] else l1.concat b, toldM (grow S b k).2.1 (grow S b k).2.2) := by
      unfold doM
      rw [if_neg (by decide), if_neg (by decide)]
      simp [List.concat_eq_append]
    rw [hd]
    have hgr := grow_calls h.drew.repo rfl b k
    have her : 0 ≤ (grow S b k).2.2 ∧ (grow S b k).2.2 ≤ 180 := ⟨grow_errno h.repo.ok b k, grow_errno_le2 h.repo.ok b k⟩
    obtain ⟨T, hT⟩ : ∃ x, (grow S b k).1 = x := ⟨_, rfl⟩
    obtain ⟨C, hC⟩ : ∃ x, (grow S b k).2.1 = x := ⟨_, rfl⟩
    obtain ⟨E, hE⟩ : ∃ x, (grow S b k).2.2 = x := ⟨_, rfl⟩
    rw [hT, hC, hE] at hgr ⊢
    rw [hE] at her
    obtain ⟨N, hN⟩ : ∃ N, (l1.concat b).length = N := ⟨_, rfl⟩
    obtain ⟨j, hj⟩ : ∃ j, l1.length = j := ⟨_, rfl⟩
    have hNj : N = j + 1 := by rw [← hN, ← hj]; simp
    have hb : (l1.concat b)[j]? = some b := by rw [← hj]; simp
    obtain ⟨bb, off, rfl, cz⟩ := hcell j b hb
    rw [hN] at h hl c3
    have hw := dg_wrap N j hNj (by omega)
    have hj0 : (0 : Int) ≤ (j : Int) := by omega
    have hj1 : (j : Int) < (N : Int) := by omega
    have hNz : ((N : Int) == 0) = false := by simp; omega
    obtain ⟨r, hr⟩ : ∃ r, (T, if E = 0 then l1 ++ [C] else l1.concat b, toldM C E) = r := ⟨_, rfl⟩
    rw [hr]
    have HR := Lib.hid hr
    have H := Lib.hid (And.intro h (And.intro hb (And.intro hN hj)))
    have HG := Lib.hid hgr
    clear hgr h hT hC hE hd hcell hn1 hn2 hN hj hb hr hNj
    go_enter Try.func40, Try.ntmps40
    go_upto_region 18 with fail
    have HB := Lib.hid (cell_lt cz)
    have hfr : ∀ i, w.frozen? ⟨bb, i, none⟩ = false := fun i => SliceAt.frozen H.out.1.ls.1 i
    refine wp_region_planH (aX := ?aXg) [13] [[], [13]] 1 [(0, 0, 0), (0, 1, 1), (1, 0, 0), (2, 0, 0), (3, 0, 0), (4, 0, 0), (4, 1, 1), (5, 0, 0), (5, 1, 1), (6, 0, 0), (6, 1, 1), (7, 0, 0), (8, 0, 0), (8, 1, 1), (9, 0, 0), (10, 0, 0), (11, 0, 0), (12, 0, 0), (13, 0, 1), (14, 1, 1), (15, 1, 1), (16, 1, 1), (17, 1, 1), (18, 1, 1)]
      [.pointer (some ⟨pb, 0, none⟩), .pointer (some ⟨pb, 0, none⟩), .pointer (some ⟨pb, 0, none⟩), .pointer (some ⟨g.s, 0, none⟩), .pointer (some ⟨pb, 0, none⟩), .pointer (some ⟨pb, 0, none⟩), .pointer (some ⟨pb, 3, none⟩), .slice (some ⟨bb, off, none⟩) N lc, .int .i64 N, .int .i64 j, .pointer (some ⟨bb, off + j, none⟩), .int .i64 b, .int .i64 k, undef, .tuple #[.int .i64 C, .int .i64 E], .int .i64 C, .int .i64 E, .int .i64 C, .int .i64 E]
      (PDG w.drew g T C E) (by kernel_rfl) (by kernel_rfl) rfl ?hXg (fun _ => undef) ?h0g ?hobg ?hendg
    case hXg => intro ξ; simp only [mixAll, Act.put]; go_simp; rfl
    case h0g => exact ⟨fun _ => rfl, fun q => absurd q (by decide)⟩
    case hobg =>
      refine oblsH_cons rfl (stepH_value rfl rfl (fun _ _ _ => rfl)) ?_
      refine oblsH_cons rfl (stepH_value rfl rfl (fun _ _ _ => rfl)) ?_
      refine oblsH_cons rfl (stepH_value rfl rfl (fun _ _ _ => rfl)) ?_
      refine oblsH_cons rfl (stepH_value rfl rfl (fun _ _ _ => rfl)) ?_
      refine oblsH_cons rfl (stepH_value rfl rfl ?_) ?_
      · rintro ξ w5 h5
        obtain rfl := h5.b rfl
        clear h5
        go_simp
        try rfl
      refine oblsH_cons rfl (stepH_value rfl rfl (fun _ _ _ => rfl)) ?_
      refine oblsH_cons rfl (stepH_value rfl rfl (fun _ _ _ => rfl)) ?_
      refine oblsH_cons rfl (stepH_value rfl rfl (fun _ _ _ => rfl)) ?_
      refine oblsH_cons rfl (stepH_value rfl rfl (fun _ _ _ => rfl)) ?_
      refine oblsH_cons rfl (stepH_value rfl rfl (fun _ _ _ => rfl)) ?_
      refine oblsH_cons rfl (stepH_value rfl rfl (fun _ _ _ => rfl)) ?_
      refine oblsH_cons rfl (stepH_value rfl rfl ?_) ?_
      · rintro ξ w5 h5
        obtain rfl := h5.b rfl
        clear h5
        go_simp
        try rfl
      refine oblsH_cons rfl (stepH_value rfl rfl (fun _ _ _ => rfl)) ?_
      refine oblsH_cons rfl (stepH_value rfl rfl (fun _ _ _ => rfl)) ?_
      refine oblsH_cons rfl (stepH_value rfl rfl ?_) ?_
      · rintro ξ w5 h5
        obtain rfl := h5.b rfl
        clear h5
        go_simp
        try rfl
      refine oblsH_cons rfl (stepH_value rfl rfl ?_) ?_
      · rintro ξ w5 h5
        obtain rfl := h5.b rfl
        clear h5
        go_simp
        try rfl
      refine oblsH_cons rfl (stepH_value rfl rfl ?_) ?_
      · rintro ξ w5 h5
        obtain rfl := h5.b rfl
        clear h5
        go_simp
        try rfl
      refine oblsH_cons rfl (stepH_value rfl rfl (fun _ _ _ => rfl)) ?_
      refine oblsH_cons rfl (stepH_call rfl rfl ?_) ?_
      · rintro ξ w5 h5
        obtain rfl := h5.b rfl
        refine ⟨20, #[.pointer (some ⟨g.s, 0, none⟩), .int .i64 b, .int .i64 k], by clear h5; go_simp, ?_⟩
        refine HG.out.mono ?_
        rintro e6 w6 ⟨rfl, g6, r6, s6⟩
        exact ⟨_, rfl, ⟨fun q => absurd q (by decide), fun _ => ⟨rfl, g6, r6, s6⟩⟩⟩
      refine oblsH_cons rfl (stepH_value rfl rfl ?_) ?_
      · rintro ξ w5 h5
        have x := (h5.e rfl).1
        clear h5
        go_simp
        try rfl
      refine oblsH_cons rfl (stepH_value rfl rfl (fun _ _ _ => rfl)) ?_
      refine oblsH_cons rfl (stepH_value rfl rfl (fun _ _ _ => rfl)) ?_
      refine oblsH_cons rfl (stepH_value rfl rfl (fun _ _ _ => rfl)) ?_
      refine oblsH_cons rfl (stepH_value rfl rfl (fun _ _ _ => rfl)) ?_
      exact oblsH_nil
    case hendg =>
      rintro ξ w1 h8
      obtain ⟨e13, g1, r1, s1⟩ := h8.e rfl
      have h2 := H.out.1.drew.step r1 s1
      have c3b : w1.cell? ⟨pb, 3, none⟩ = some (.slice (some ⟨bb, off, none⟩) N lc) := cell_at h2.blk rfl
      have czb : w1.cell? ⟨bb, off + j, none⟩ = some (.int .i64 b) := SliceAt.cells h2.ls.1 j _ (by unfold icells; rw [List.getElem?_map, H.out.2.1]; rfl)
      have fzb : w1.frozen? ⟨bb, off + j, none⟩ = false := SliceAt.frozen h2.ls.1 _
      by_cases hE : E = 0
      · subst hE
        have hset := SliceAt.set h2.ls.1 j (.int .i64 C) (by rw [icells_length, H.out.2.2.1]; omega)
        rw [dg_set l1 b C j H.out.2.2.2] at hset
        have h3 := h2.app_l (w' := w1.setCell ⟨bb, off + j, none⟩ (.int .i64 C)) (v' := .slice (some ⟨bb, off, none⟩) N lc) (l := l1 ++ [C]) (show Turn (fun k => (Value.slice (some ⟨bb, off, none⟩) N lc).ownBlock = some k) w1 _ from Turn.setCell (S := fun k => (Value.slice (some ⟨bb, off, none⟩) N lc).ownBlock = some k) (Turn.refl _ w1) (p := ⟨bb, off + j, none⟩) (fun _ => rfl) _) hset (.inl rfl)
        have H3 := Lib.hid (And.intro h3 (And.intro s1.s s1.n))
        clear h8 e13 r1 s1 h2 hset h3 cz c0 c3 her hfr
        go_wp2_with (go_at_call 64; refine (told_calls C 0 (by decide) (by decide) _).mono ?_; rintro e4 w4 ⟨rfl, rfl⟩)
        go_ret
        rw [← HR.out, if_pos trivial]
        exact ⟨rfl, g1, _, _, H3.out.1, H3.out.2.1, H3.out.2.2⟩
      · have hEb : (E == 0) = false := by simp [hE]
        have H3 := Lib.hid (And.intro h2 (And.intro s1.s (And.intro s1.n hE)))
        have HT := Lib.hid (told_calls C E her.1 (by omega) w1)
        clear h8 e13 r1 s1 h2 hE cz c0 c3 her hfr
        go_wp2_with (go_at_call 64; refine HT.out.mono ?_; rintro e4 w4 ⟨rfl, rfl⟩)
        go_ret
        rw [← HR.out, if_neg H3.out.2.2.2]
        exact ⟨rfl, g1, m, _, H3.out.1, H3.out.2.1, H3.out.2.2.1⟩

theorem doOk_grow : DoOk 2 := fun h hl _ k _ => do_grow h hl k
end Go.Sto
