/-
  poured, walked.
-/
import Derived.Deep.CutRange
import Derived.Deep.DeepCutAuto
import Derived.Test.YtipjapijadgihaaGreatDoorQStrPour
set_option linter.unusedVariables false

namespace Go.Str
open Go.Own Go.RowKit Go.Proofs

section
variable {g g' : Gh} {S : SS} {w w' : World} {b A Pb O : Bytes} {c : Bool} {k m : Nat}

structure PoM (g : Gh) (b : Bytes) (w : World) (A Pb O L : Bytes) (ended closed : Bool) (g' : Gh) (lv : Value) (wr : World) : Prop where
  sum : O ++ Pb ++ L ++ A = b
  pl : Pb.length ≤ 64
  en : ended = true → A = []
  cl : closed = true → ended = true ∧ L = []
  rep : Rep g' (PoS b A Pb O closed) wr
  free : Free g' wr lv (bcells L)
  step : Step g g' w wr

def PoI (g : Gh) (b : Bytes) (w : World) (gk : Nat) (lv ev cv : Value) (wr : World) : Prop :=
  ∃ A Pb O L ended closed g', gk + O.length = b.length ∧ ev = .bool ended ∧ cv = .bool closed ∧ PoM g b w A Pb O L ended closed g' lv wr

set_option maxRecDepth 10000 in
set_option maxHeartbeats 4000000 in
theorem poured_calls (h : Rep g (CpE b) w) {sb : Nat} (hs : g.s = sb) (hb : b.length ≤ 2000) {n : Nat} (hn1 : 1 ≤ n) (hn2 : n ≤ 100) :
    Calls Tryz.prog 14 #[pt sb, .string (bs nRamSubTwo), .string (bs nThree), .int .i64 n] w fun e w' => e = .returned (.bool true) ∧ ∃ g', Rep g' (PoE b) w' ∧ Step g g' w w' := by
  have H := Lib.hid (And.intro h (And.intro hb (And.intro hs (And.intro hn1 hn2))))
  obtain ⟨N, hN⟩ : ∃ N, b.length = N := ⟨_, rfl⟩
  have HN := Lib.hid hN
  clear h hb hs hN hn1 hn2
  go_enter Tryz.func14, Tryz.ntmps14
  go_wp2_with fail
  refine (po_open1 H.out.1 H.out.2.2.1 H.out.2.1).mono ?_
  rintro e1 w1 ⟨rfl, g1, R1, S1⟩
  have H1 := Lib.hid (And.intro R1 (And.intro S1 (S1.s.trans H.out.2.2.1)))
  clear R1 S1
  go_wp2_with fail
  refine (po_open2 H1.out.1 H1.out.2.2).mono ?_
  rintro e2 w2 ⟨rfl, g2, R2, S2⟩
  have H2 := Lib.hid (And.intro R2 (And.intro (H1.out.2.1.trans S2) (S2.s.trans H1.out.2.2)))
  clear R2 S2
  go_wp2_with fail
  refine (po_open3 H2.out.1 H2.out.2.2).mono ?_
  rintro e3 w3 ⟨rfl, g3, R3, S3⟩
  have H3 := Lib.hid (And.intro R3 (And.intro (H2.out.2.1.trans S3) (S3.s.trans H2.out.2.2)))
  clear R3 S3
  go_wp2_with fail
  refine (po_open4 H3.out.1 H3.out.2.2).mono ?_
  rintro e4 w4 ⟨rfl, g4, R4, S4⟩
  have HI := Lib.hid (show PoI g b w N (.slice none 0 0) (.bool false) (.bool false) w4 from ⟨b, [], [], [], false, false, g4, (by rw [HN.out]; rfl), rfl, rfl, ⟨rfl, Nat.zero_le _, (fun e => by cases e), (fun e => by cases e), R4, Free.nil, H3.out.2.1.trans S4⟩⟩)
  clear R4 S4
  go_wp2_with fail
  go_loopg [17, 18, 19] (N) (fun gk lv ev cv wr => PoI g b w gk lv ev cv wr)
  case atStart => exact HI.out
  case round =>
    obtain ⟨A, Pb, O, L, ended, closed, g5, hgk, rfl, rfl, hM⟩ := hrel
    have hs5 := hM.step.s.trans H.out.2.2.1
    have hlen := congrArg List.length hM.sum
    simp only [List.length_append] at hlen
    have hNN := HN.out
    obtain ⟨ua, uc, rfl, -, -⟩ := bytes_form hM.free.1
    have hLL : (bcells L).length = L.length := bcells_length L
    rw [hLL] at hM ⊢
    obtain ⟨l0, hl0⟩ : ∃ l0, L.length = l0 := ⟨_, rfl⟩
    rw [hl0] at hM ⊢
    have HM := Lib.hid (And.intro hM (And.intro hs5 (And.intro hgk (And.intro hlen hl0))))
    generalize hG : gk = GK at *
    clear hG hM hs5 hlen hNN hLL hl0 hgk
    go_step
    (refine wp_seq_k ?_; intro _ _)
    go_cut [17, 18, 20, 21, 22] from 64 to 82 (fun lv ev x20 x21 x22 wx => ∃ A L ended g6 la lc, lv = .slice la L.length lc ∧ ev = .bool ended ∧ (L = [] → ended = true) ∧ PoM g b w A Pb O L ended closed g6 lv wx)
    case first =>
      by_cases hl : l0 = 0
      · subst hl
        have hLn : L = [] := List.length_eq_zero_iff.1 HM.out.2.2.2.2
        cases ended with
        | true =>
          have HLn := Lib.hid hLn
          clear hLn
          go_wp2_with fail
          go_meet
          exact ⟨A, L, true, g5, ua, uc, by rw [HM.out.2.2.2.2], rfl, fun _ => rfl, HM.out.1⟩
        | false =>
          by_cases hA : A = []
          · subst hA
            have HR := Lib.hid (po_read_end HM.out.1.rep HM.out.2.1 H.out.2.2.2.1 H.out.2.2.2.2)
            have HLn := Lib.hid hLn
            clear hLn
            go_wp2_with fail
            refine HR.out.mono ?_
            rintro e5 w5 ⟨rfl, R5, T5⟩
            have H5 := Lib.hid (show PoM g b w [] Pb O [] true closed g5 (.slice none 0 0) w5 from
              ⟨by have := HM.out.1.sum; rw [HLn.out] at this; exact this, HM.out.1.pl, (fun _ => rfl), (fun e => ⟨rfl, rfl⟩), R5, Free.nil, HM.out.1.step.trans (Step.fresh _ T5)⟩)
            clear R5 T5
            go_wp2_with fail
            go_meet
            exact ⟨[], [], true, g5, none, 0, rfl, rfl, fun _ => rfl, H5.out⟩
          · have hAl : A.length ≤ 2000 := by have := HM.out.2.2.2.1; have := H.out.2.1; omega
            have HR := Lib.hid (po_read HM.out.1.rep HM.out.2.1 hA hAl H.out.2.2.2.1 H.out.2.2.2.2)
            have HLn := Lib.hid (And.intro hLn (And.intro hA hAl))
            clear hLn hA hAl
            go_wp2_with fail
            refine HR.out.mono ?_
            rintro e5 w5 ⟨u, g6, rfl, hu, hfu, R5, S5⟩
            obtain ⟨va, vc, rfl, -, -⟩ := bytes_form hu
            rw [bcells_length] at hu hfu ⊢
            obtain ⟨q, hq⟩ : ∃ q, min n A.length = q := ⟨_, rfl⟩
            rw [hq] at hu hfu R5 ⊢
            have hc0 : closed = false := by
              cases hc : closed with
              | false => rfl
              | true => have := (HM.out.1.cl hc).1; cases this
            have hA0 : 0 < A.length := List.length_pos_iff.2 HLn.out.2.1
            have hne : A.take q ≠ [] := fun e => by
              have := congrArg List.length e
              have := H.out.2.2.2.1
              rw [List.length_take] at *
              rw [List.length_nil] at *
              omega
            have hM : PoM g b w (A.drop q) Pb O (A.take q) false closed g6 (.slice va (A.take q).length vc) w5 :=
              ⟨by have := HM.out.1.sum; rw [HLn.out.1] at this; rw [← this]; simp, HM.out.1.pl, (fun e => by cases e), (fun e => by rw [hc0] at e; cases e), R5, ⟨hu, fun k hk => (hfu k hk).2⟩, HM.out.1.step.trans S5⟩
            clear hu hfu R5 S5 hq hc0 hA0
            obtain ⟨L1, hL1⟩ : ∃ L1, A.take q = L1 := ⟨_, rfl⟩
            rw [hL1] at hM hne ⊢
            obtain ⟨l1, hl1⟩ : ∃ l1, L1.length = l1 := ⟨_, rfl⟩
            rw [hl1] at hM ⊢
            have H5 := Lib.hid (And.intro hM (And.intro hne hl1))
            clear hM hne hl1 hL1
            go_wp2_with fail
            go_meet
            exact ⟨A.drop q, L1, false, g6, va, vc, by rw [H5.out.2.2], rfl, fun e => absurd e H5.out.2.1, H5.out.1⟩
      · have hl1 : ((l0 : Int) == 0) = false := beq_eq_false_iff_ne.2 (by omega)
        have hl2 : (l0 = 0) = False := eq_false hl
        have HL0 := Lib.hid hl
        clear hl
        go_wp2_with fail
        go_meet
        exact ⟨A, L, ended, g5, ua, uc, by rw [HM.out.2.2.2.2], rfl, fun e => absurd (by rw [← HM.out.2.2.2.2, e]; rfl) HL0.out, HM.out.1⟩
    case rest =>
      obtain ⟨A, L, ended, g6, la, lc, rfl, rfl, hend, hM⟩ := hcut
      have hs6 := hM.step.s.trans H.out.2.2.1
      have hlen := congrArg List.length hM.sum
      simp only [List.length_append] at hlen
      obtain ⟨l1, hl1⟩ : ∃ l1, L.length = l1 := ⟨_, rfl⟩
      rw [hl1] at hM ⊢
      have HM2 := Lib.hid (And.intro hM (And.intro hs6 (And.intro hend (And.intro hlen hl1))))
      have HGK := Lib.hid HM.out.2.2.1
      clear hM hs6 hlen hl1 hend HM
      go_step
      (refine wp_seq_k ?_; intro _ _)
      iterate 10 go_step
      (refine wp_seq_k ?_; intro _ _)
      go_cut [17, 19, 23, 24] from 83 to 100 (fun lv cv nv iv wx => ∃ Pb L closed g7 la lc i, lv = .slice la L.length lc ∧ cv = .bool closed ∧ iv = .int .i64 i ∧ (i = 0 ∨ i = 5) ∧ (Pb = [] → closed = true) ∧ PoM g b w A Pb O L ended closed g7 lv wx)
      case first =>
        by_cases hl : l1 = 0
        · subst hl
          have hLn : L = [] := List.length_eq_zero_iff.1 HM2.out.2.2.2.2
          subst hLn
          have he := HM2.out.2.2.1 rfl
          subst he
          cases closed with
          | true =>
            go_wp2_with fail
            go_meet
            exact ⟨Pb, [], true, g6, la, lc, 0, rfl, rfl, rfl, .inl rfl, fun _ => rfl, HM2.out.1⟩
          | false =>
            have HR := Lib.hid (po_closew HM2.out.1.rep HM2.out.2.1)
            go_wp2_with fail
            refine HR.out.mono ?_
            rintro e7 w7 ⟨rfl, g7, R7, S7⟩
            have H7 := Lib.hid (show PoM g b w A Pb O [] true true g7 (.slice la 0 lc) w7 from
              ⟨HM2.out.1.sum, HM2.out.1.pl, HM2.out.1.en, (fun e => ⟨rfl, rfl⟩), R7, HM2.out.1.free.step S7, HM2.out.1.step.trans S7⟩)
            clear R7 S7
            go_wp2_with fail
            go_meet
            exact ⟨Pb, [], true, g7, la, lc, 0, rfl, rfl, rfl, .inl rfl, fun _ => rfl, H7.out⟩
        · have hLn : L ≠ [] := fun e => hl (by rw [← HM2.out.2.2.2.2, e]; rfl)
          have hc0 : closed = false := by
            cases hc : closed with
            | false => rfl
            | true => exact absurd (HM2.out.1.cl hc).2 hLn
          subst hc0
          have hLl : L.length ≤ 2000 := by have := HM2.out.2.2.2.1; have := H.out.2.1; omega
          have hl2 : 0 < l1 := by omega
          by_cases hp : Pb.length = 64
          · have HR := Lib.hid (po_full HM2.out.1.rep HM2.out.2.1 HM2.out.1.free.1 hLn hp)
            have HF := Lib.hid (And.intro hLn hp)
            clear hl hLn hLl hp
            go_wp2_with fail
            refine HR.out.mono ?_
            rintro e7 w7 ⟨rfl, R7, T7⟩
            have H7 := Lib.hid (show PoM g b w A Pb O L ended false g6 (.slice la l1 lc) w7 from
              ⟨HM2.out.1.sum, HM2.out.1.pl, HM2.out.1.en, (fun e => by cases e), R7, HM2.out.1.free.step (Step.fresh g6 T7), HM2.out.1.step.trans (Step.fresh _ T7)⟩)
            clear R7 T7
            go_wp2_with fail
            go_meet
            exact ⟨Pb, L, false, g6, la, lc, 5, by rw [HM2.out.2.2.2.2], rfl, rfl, .inr rfl, fun e => by have := HF.out.2; rw [e] at this; simp at this, H7.out⟩
          · have hpl : Pb.length < 64 := by have := HM2.out.1.pl; omega
            obtain ⟨m, hm⟩ : ∃ m, fits 64 Pb L = m := ⟨_, rfl⟩
            have hm0 : 0 < m := by have := HM2.out.2.2.2.2; unfold fits at hm; omega
            have hml : m ≤ L.length := by unfold fits at hm; omega
            have hmp : Pb.length + m ≤ 64 := by unfold fits at hm; omega
            have hR := po_put HM2.out.1.rep HM2.out.2.1 HM2.out.1.free.1 hLn hLl hpl
            rw [hm] at hR
            have HR := Lib.hid hR
            obtain ⟨a', n', c', hfr, hfs, hfo⟩ := run_slice_from (m := m) HM2.out.1.free.1 (by have := HM2.out.2.2.2.2; omega)
            have HF := Lib.hid (And.intro hfs (And.intro hfo (And.intro hLn (And.intro hm0 (And.intro hml hmp)))))
            clear hl hLn hLl hp hfs hfo hR hm0 hml hmp hpl hm
            go_wp2_with fail
            refine HR.out.mono ?_
            rintro e7 w7 ⟨rfl, g7, R7, S7⟩
            have hf7 := HM2.out.1.free.step S7
            have h7 := HF.out.1 w7 hf7.1
            rw [bcells_drop] at h7
            obtain ⟨_, _, e, -, -⟩ := bytes_form h7
            rw [bcells_length] at e
            cases e
            have hM7 : PoM g b w A (Pb ++ L.take m) O (L.drop m) ended false g7 (.slice a' (L.drop m).length c') w7 :=
              ⟨by rw [← HM2.out.1.sum]; simp only [List.append_assoc]; rw [← List.append_assoc (L.take m), List.take_append_drop], by have := HF.out.2.2.2.2.2; simp; omega, HM2.out.1.en, (fun e => by cases e), R7, ⟨h7, fun k hk => hf7.2 k (by rw [← HF.out.2.1]; exact hk)⟩, HM2.out.1.step.trans S7⟩
            obtain ⟨L1, hL1⟩ : ∃ L1, L.drop m = L1 := ⟨_, rfl⟩
            rw [hL1] at hM7 hfr
            obtain ⟨l2, hl2'⟩ : ∃ l2, L1.length = l2 := ⟨_, rfl⟩
            rw [hl2'] at hM7 hfr
            have H7 := Lib.hid (And.intro hM7 hl2')
            clear R7 S7 hf7 h7 hM7 hL1 hl2'
            go_wp2_with fail
            go_meet
            exact ⟨Pb ++ L.take m, L1, false, g7, a', c', 0, by rw [H7.out.2], rfl, rfl, .inl rfl, fun e => by have h1 := congrArg List.length e; rw [List.length_append, List.length_take, List.length_nil] at h1; have h2 := HF.out.2.2.2.1; have h3 := HF.out.2.2.2.2.1; omega, H7.out.1⟩
      case rest =>
        obtain ⟨Pb, L, closed, g7, la, lc, i, rfl, rfl, rfl, hi, hpc, hM⟩ := hcut
        have hs7 := hM.step.s.trans H.out.2.2.1
        have hlen := congrArg List.length hM.sum
        simp only [List.length_append] at hlen
        obtain ⟨l2, hl2⟩ : ∃ l2, L.length = l2 := ⟨_, rfl⟩
        rw [hl2] at hM ⊢
        have HM3 := Lib.hid (And.intro hM (And.intro hs7 (And.intro hpc (And.intro hlen hl2))))
        have HI5 := Lib.hid hi
        clear hM hs7 hpc hlen hl2 hi HM2
        go_step
        (refine wp_seq_k ?_; intro _ _)
        (refine wp_seq_k ?_; intro _ _)
        go_cut [106] from 101 to 105 (fun c wx => c = .bool false ∧ wx = wc)
        case first =>
          rcases HI5.out with rfl | rfl
          · go_wp2_with fail
            go_meet
            exact ⟨rfl, rfl⟩
          · go_wp2_with fail
            go_meet
            exact ⟨rfl, rfl⟩
        case rest =>
          obtain ⟨rfl, rfl⟩ := hcut
          by_cases hP : Pb = []
          · subst hP
            have hc := HM3.out.2.2.1 rfl
            subst hc
            obtain ⟨he, hL⟩ := HM3.out.1.cl rfl
            subst he
            subst hL
            have hA := HM3.out.1.en rfl
            subst hA
            have hO : O = b := by have := HM3.out.1.sum; simpa using this
            have HO := Lib.hid hO
            have HR := Lib.hid (po_take_end HM3.out.1.rep HM3.out.2.1)
            clear hO
            go_wp2_with fail
            refine HR.out.mono ?_
            rintro e8 w8 ⟨rfl, R8, T8⟩
            have H8 := Lib.hid (And.intro R8 (HM3.out.1.step.trans (Step.fresh _ T8)))
            clear R8 T8
            go_wp2_with fail
            refine (po_close1 H8.out.1 HM3.out.2.1).mono ?_
            rintro e9 w9 ⟨rfl, g9, R9, S9⟩
            have H9 := Lib.hid (And.intro R9 (And.intro (H8.out.2.trans S9) (S9.s.trans HM3.out.2.1)))
            clear R9 S9
            go_wp2_with fail
            refine (po_close2 H9.out.1 H9.out.2.2).mono ?_
            rintro e10 w10 ⟨rfl, g10, R10, S10⟩
            rw [HO.out] at R10
            have H10 := Lib.hid (And.intro R10 (And.intro (H9.out.2.1.trans S10) (S10.s.trans H9.out.2.2)))
            clear R10 S10
            go_wp2_with fail
            refine (po_close3 H10.out.1 H10.out.2.2).mono ?_
            rintro e11 w11 ⟨rfl, g11, R11, S11⟩
            have H11 := Lib.hid (And.intro R11 (H10.out.2.1.trans S11))
            clear R11 S11
            go_wp2_with fail
            go_ret
            exact ⟨rfl, g11, H11.out⟩
          · have HR := Lib.hid (po_take HM3.out.1.rep HM3.out.2.1 hP HM3.out.1.pl)
            have hP0 : 0 < Pb.length := List.length_pos_iff.2 hP
            have HP := Lib.hid hP0
            clear hP hP0
            go_wp2_with fail
            refine HR.out.mono ?_
            rintro e8 w8 ⟨u, g8, rfl, hu, hfu, R8, S8⟩
            obtain ⟨va, vc, rfl, -, -⟩ := bytes_form hu
            rw [bcells_length] at hu hfu ⊢
            obtain ⟨q, hq⟩ : ∃ q, min 7 Pb.length = q := ⟨_, rfl⟩
            rw [hq] at hu hfu R8 ⊢
            have hq0 : 0 < q := by have := HP.out; omega
            have hqP : q ≤ Pb.length := by omega
            obtain ⟨ys, hys⟩ : ∃ ys, Pb.take q = ys := ⟨_, rfl⟩
            have hyl : ys.length = q := by rw [← hys, List.length_take]; omega
            rw [hys, hyl] at hu hfu ⊢
            have hOl : O.length + ys.length ≤ 2000 := by have := HM3.out.2.2.2.1; have := H.out.2.1; omega
            have hs8 := S8.s.trans HM3.out.2.1
            have HW := Lib.hid (po_out R8 hs8 hu hOl)
            have H8 := Lib.hid (And.intro (HM3.out.1.step.trans S8) (And.intro (HM3.out.1.free.step S8) (And.intro hs8 (And.intro hq0 (And.intro hqP (And.intro hys hyl))))))
            clear hu hfu R8 S8 hq hq0 hqP hys hyl hOl hs8
            go_wp2_with fail
            refine HW.out.mono ?_
            rintro e9 w9 ⟨rfl, g9, R9, S9⟩
            have H9 := Lib.hid (show PoM g b w A (Pb.drop q) (O ++ ys) L ended closed g9 (.slice la l2 lc) w9 from
              ⟨by rw [← HM3.out.1.sum, ← H8.out.2.2.2.2.2.1]; simp only [List.append_assoc]; rw [← List.append_assoc (Pb.take q), List.take_append_drop], by have := HM3.out.1.pl; rw [List.length_drop]; omega, HM3.out.1.en, HM3.out.1.cl, R9, H8.out.2.1.step S9, H8.out.1.trans S9⟩)
            clear R9 S9
            go_wp2_with fail
            have e1 := HGK.out
            have e2 := H8.out.2.2.2.1
            have e3 := H8.out.2.2.2.2.2.2
            have e4 := HM3.out.2.2.2.1
            have e5 := H8.out.2.2.2.2.1
            go_roundg (GK - q)
            case rel => exact ⟨A, Pb.drop q, O ++ ys, L, ended, closed, g9, by rw [List.length_append]; omega, rfl, rfl, H9.out⟩
            case measure => omega
end
end Go.Str
