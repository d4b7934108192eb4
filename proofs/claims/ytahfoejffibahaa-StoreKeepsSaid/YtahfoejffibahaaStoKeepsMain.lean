/-
  StoreKeeps, walked.
-/
import Derived.Deep.CutRange
import Derived.Deep.LoopGhost
import Derived.Test.YtahfoejffibahaaStoTopMain
import Derived.Test.YtahfoejffibahaaStoKeepsPure
import Derived.Test.YtahfoejffibahaaStoAwake
namespace Go.Sto
open Go.Own Go.RowKit Go.Proofs

theorem IntsC.old {w w' : World} {a : Option Addr} {l : List Int} (h : IntsC w a l) (ho : Old w w') : IntsC w' a l := fun k x hk => by
  obtain ⟨b, off, e, c⟩ := h k x hk
  have hlt := cell_lt c
  have e2 := ho.block b hlt (fun hh => by simp at hlt; omega)
  exact ⟨b, off, e, by rw [← c]; simp [World.cell?, e2]⟩

def KI (w0 : World) (n j : Nat) (s : Nat) (vh vm : Value) (w : World) : Prop :=
  ∃ g S hs ms, MI w0 n g S vh vm hs ms w ∧ KH S hs ms ∧ hs.length ≤ j ∧ g.s = s

theorem get_err0 {n : Nat} {S : St} (h : Ok n S) (k : Int) : (get S k).2.2 ≠ 0 → (get S k).1 = S := fun e => (held_fail h e).1

theorem keep_wf {a : Int} {x m : Nat} (h0 : 0 < a) (h1 : a ≤ 32000) (hm : m ≤ 32002) (hx : x < m) : (Lit.int .i64 (1000 * a + x)).wf = true ∧ IntKind.i64.wrap (1000 * a) = 1000 * a ∧ IntKind.i64.wrap (1000 * a + x) = 1000 * a + x ∧ wrap64 (1000 * a) = 1000 * a ∧ wrap64 (1000 * a + x) = 1000 * a + x :=
  ⟨wf_i64 (by omega) (by omega), IntWalk.i64_in _ (by omega), IntWalk.i64_in _ (by omega), by unfold wrap64; omega, by unfold wrap64; omega⟩

theorem neg_facts {k : Int} (h : (Lit.int .i64 k).wf = true) (hk : k < 0) : IntKind.i64.wrap (k + 1) = k + 1 ∧ IntKind.i64.wrap (-(k + 1)) = -(k + 1) ∧ wrap64 (k + 1) = k + 1 ∧ wrap64 (-(k + 1)) = -(k + 1) := by
  unfold Lit.wf at h
  rw [Bool.and_eq_true, decide_eq_true_eq, decide_eq_true_eq] at h
  have a : IntKind.i64.min = -9223372036854775808 := by rfl
  have b : IntKind.i64.max = 9223372036854775807 := by rfl
  rw [a, b] at h
  exact ⟨IntWalk.i64_in _ (by omega), IntWalk.i64_in _ (by omega), by unfold wrap64; omega, by unfold wrap64; omega⟩

set_option maxRecDepth 100000 in
set_option maxHeartbeats 4000000 in
theorem keeps_good (w0 : World) (n : Nat) (h0 : 4 ≤ n) (h1 : n ≤ 4000) (h2 : n % 2 = 0) (l : List Int) (a : Option Addr) (cap : Nat) (hl : l.length ≤ 40) (hin : IntsC w0 a l) (hwf : ∀ p ∈ l, (Lit.int .i64 p).wf = true) :
    Calls Try.prog 5 #[.int .i64 n, .slice a l.length cap] w0 fun e w' => e = .returned (.bool true) ∧ Old w0 w' := by
  have q1 : decide ((4000 : Int) < (n : Int)) = false := by simp; omega
  have q2 : decide ((40 : Int) < (l.length : Int)) = false := by simp; omega
  have q1' : decide (4000 < n) = false := by simp; omega
  have q2' : decide (40 < l.length) = false := by simp; omega
  have HI := Lib.hid (And.intro hin hwf)
  clear hin hwf
  go_enter Try.func5, Try.ntmps5
  go_wp2_with fail
  refine (new_good n h0 (by omega) h2 w0).mono ?_
  rintro e1 w1 ⟨g1, rfl, hgn, r1, hB1, htag, hk1⟩
  have start : KI w0 n 0 g1.s (.slice none 0 0) (.slice none 0 0) w1 :=
    ⟨g1, newS n, [], [], { repo := r1, gn := hgn, held := SliceAt.nil _ _ _, marks := SliceAt.nil _ _ _, th := fun b hb => by simp [Value.ownBlock] at hb, tm := fun b hb => by simp [Value.ownBlock] at hb, apart := fun b hb => by simp [Value.ownBlock] at hb,
                            old := ⟨hB1.os, hB1.tape, hB1.output, hB1.size, fun k hk _ => hB1.block k hk⟩, tags := fun k hk => by rw [htag k hk] }, ⟨[], by simp [newS, U, hole], rfl, rfl, fun x hx => by cases hx⟩, by simp, rfl⟩
  obtain ⟨s, hs⟩ : ∃ s, g1.s = s := ⟨_, rfl⟩
  rw [hs] at start ⊢
  have HST := Lib.hid start
  clear start r1 hB1 htag hk1 hgn hs
  go_wp2
  go_loopg [7, 8, 9] (l.length) (fun k vh vm i wr => k ≤ l.length ∧ i = .int .i64 ((l.length - k : Nat) : Int) ∧ KI w0 n (l.length - k) s vh vm wr)
  case atStart => exact ⟨Nat.le_refl _, by simp, by simpa using HST.out⟩
  case round =>
    obtain ⟨hk, rfl, hTI⟩ := hrel
    obtain ⟨j, hj⟩ : ∃ j, l.length - gk = j := ⟨_, rfl⟩
    rw [hj] at hTI ⊢
    have HJ := Lib.hid hj
    clear hj
    obtain ⟨g, S, hs, ms, hMI, hHH, hle, hgs⟩ := hTI
    by_cases hlt : j < l.length
    · obtain ⟨p, hp⟩ : ∃ p, l[j]? = some p := ⟨_, List.getElem?_eq_getElem hlt⟩
      obtain ⟨b, off, rfl, hc⟩ := (HI.out.1.old hMI.old) j p hp
      obtain ⟨ah, ch, rfl, hn1, hn2, hch⟩ := ints_form hMI.held
      obtain ⟨am, cm, rfl, hm1, hm2, hcm⟩ := ints_form hMI.marks
      have HM := Lib.hid hMI
      have HH := Lib.hid hHH
      have HG := Lib.hid hgs
      have HP := Lib.hid (And.intro hp (HI.out.2 p (List.mem_of_getElem? hp)))
      have HCH := Lib.hid hch
      have HCM := Lib.hid hcm
      have hlenH : hs.length ≤ 1000 := Nat.le_trans hle (Nat.le_trans (Nat.le_of_lt hlt) (Nat.le_trans hl (by decide)))
      have hlenM : ms.length ≤ 1000 := HH.out.len ▸ hlenH
      clear hMI hHH hgs hp hch hcm
      go_upto_region 11 with fail
      go_cut [60] from 54 to 60 (fun c wx => c = .bool (decide (p < 0 ∧ 0 < hs.length)) ∧ wx = wr)
      case first =>
        by_cases h3 : p < 0
        · by_cases hps : 0 < hs.length
          · go_wp2_with fail
            go_meet
            exact ⟨by simp [h3, hps], rfl⟩
          · have hps' : ¬ 0 < hs.length := hps
            go_wp2_with fail
            go_meet
            exact ⟨(by rw [decide_eq_false (fun h => hps' h.2)]; try simp), rfl⟩
        · have H3 := Lib.hid h3
          go_wp2_with fail
          go_meet
          exact ⟨(by rw [decide_eq_false (fun h => absurd h.1 (Int.not_lt.2 H3.out))]), rfl⟩
      case rest =>
        obtain ⟨rfl, rfl⟩ := hcut
        go_upto_if 60 with fail
        by_cases hA : p < 0 ∧ 0 < hs.length
        · obtain ⟨hA1, hA2⟩ := hA
          rw [decide_eq_true (show p < 0 ∧ 0 < hs.length from ⟨hA1, hA2⟩)]
          obtain ⟨K, hK⟩ : ∃ K, (-(p + 1)).toNat % hs.length = K := ⟨_, rfl⟩
          have hKlt : K < hs.length := by rw [← hK]; exact Nat.mod_lt _ hA2
          have HK := Lib.hid hK
          clear hK
          go_upto_region 12 with fail
          go_cut [11] from 61 to 66 (fun kv wx => kv = .int .i64 (K : Nat) ∧ wx = wc)
          case first =>
            have hzd : (((hs.length : Nat) : Int) == 0) = false := beq_eq_false_iff_ne.2 (by omega)
            have hzd2 : ¬ ((hs.length : Nat) : Int) = 0 := by omega
            obtain ⟨f1, f2, f3, f4⟩ := neg_facts HP.out.2 hA1
            have hres : Int.tmod (-(p + 1)) hs.length = (K : Int) := by
              obtain ⟨m2, hm2'⟩ : ∃ m : Nat, -(p + 1) = m := ⟨(-(p + 1)).toNat, by omega⟩
              rw [← HK.out, hm2', Int.toNat_natCast]; rfl
            have hwr : IntKind.i64.wrap (K : Int) = K := IntWalk.i64_in _ (by omega)
            go_wp2_with fail
            go_meet
            exact ⟨by simp [hres], rfl⟩
          case rest =>
            obtain ⟨rfl, rfl⟩ := hcut
            obtain ⟨a1, S1, ha1, hput, hput2, hok1, hH1⟩ := kh_put HM.out.repo.ok HH.out hKlt
            have hKm : K < ms.length := HH.out.len ▸ hKlt
            obtain ⟨bh, offh, rfl, hce⟩ := HCH.out K a1 ha1
            obtain ⟨v1, hv1⟩ : ∃ v, ms[K]? = some v := ⟨_, List.getElem?_eq_getElem hKm⟩
            obtain ⟨bm, offm, rfl, -⟩ := HCM.out K v1 hv1
            have hR := Lib.hid (And.intro hput (And.intro hput2 (And.intro hok1 (And.intro hH1 ha1))))
            clear hput hput2 hok1 hH1 ha1 hv1
            go_wp2_with fail
            refine (put_calls HM.out.repo HG.out a1).mono ?_
            rintro e4 w4 ⟨rfl, g4, r4, s4⟩
            rw [hR.out.1] at r4 ⊢
            have hM4 := HM.out.step r4 s4
            have hce4 := hM4.held.cells K (.int .i64 a1) (by simp [icells, hR.out.2.2.2.2])
            have HM3 := Lib.hid (And.intro hM4 (s4.s.trans HG.out))
            clear hM4 r4 s4 hce
            go_wp2_with fail
            refine (put_calls HM3.out.1.repo HM3.out.2 a1).mono ?_
            rintro e5 w5 ⟨rfl, g5, r5, s5⟩
            rw [hR.out.2.1] at r5 ⊢
            have hM5 := HM3.out.1.step r5 s5
            have HM4 := Lib.hid (And.intro hM5 (s5.s.trans HM3.out.2))
            clear hM5 r5 s5 hce4
            go_upto_region 15 with fail
            go_cut [7] from 83 to 91 (fun v wx => MI w0 n g5 S1 v (.slice (some ⟨bm, offm, none⟩) ms.length cm) (hs.take K ++ hs.drop (K + 1)) ms wx)
            case first =>
              obtain ⟨vA, wA, vB, wB, hrA, hrB, hsB, htB, hbB⟩ := removal HM4.out.1.held hKlt hlenH
              have HF := Lib.hid (HM4.out.1.set_held (htB.mono fun k _ h => .inr h) hsB (fun b hb => .inr (hbB b hb)))
              obtain ⟨hw96, hw97, hi1, hi2, hi3, hi4, hi5⟩ := cut_facts hKlt hn1 hlenH
              clear hsB htB hbB
              by_cases hcap : ch = K + 1
              · have hrv : restv bh offh hs.length ch K = .slice (some ⟨bh, offh, none⟩) 0 0 := if_pos hcap
                rw [hrv] at hrB
                obtain ⟨p1, p2, p3, p4, p5, p6, p7⟩ := cut_facts1 hKlt hn1 hcap
                clear hi5 hcap
                clear hrv
                refine wp_region_planL (aF := ?aF15p) (aR := ?aR15p) [3, 8] [[], [3], [3, 8]] 2 [(0, 0, 0), (1, 0, 0), (2, 0, 0), (3, 0, 1), (4, 0, 0), (4, 1, 1), (5, 0, 0), (5, 1, 1), (6, 0, 0), (6, 1, 1), (7, 0, 0), (7, 1, 1), (8, 1, 2), (9, 2, 2)] [9]
                  [w5.drew, wA, wB] [.slice (some ⟨bh, offh, none⟩) hs.length ch, .int .i64 K, .slice (some ⟨bh, offh, none⟩) K ch, vA, .slice (some ⟨bh, offh, none⟩) hs.length ch, .int .i64 K, .int .i64 ((K : Int) + 1), .slice (some ⟨bh, offh, none⟩) 0 0, vB, vB]
                  (by kernel_rfl) (by kernel_rfl) ?hF15p ?hR15p rfl rfl rfl ?hob15p ?hend15p
                case hF15p => simp only [putAll, Act.put]; go_simp; rfl
                case hR15p => simp only [putAllL, Act.put]; go_simp; rfl
                case hob15p =>
                  refine oblsL_cons rfl rfl rfl ?_ ?_
                  · exact RunsL.value rfl rfl rfl
                  refine oblsL_cons rfl rfl rfl ?_ ?_
                  · exact RunsL.value rfl rfl rfl
                  refine oblsL_cons rfl rfl rfl ?_ ?_
                  · apply RunsL.value rfl; (focus (go_simp; try exact rfl)); exact rfl
                  refine oblsL_cons rfl rfl rfl ?_ ?_
                  · exact RunsL.append rfl _ _ _ _ rfl _ _ _ rfl rfl hrA rfl
                  refine oblsL_cons rfl rfl rfl ?_ ?_
                  · exact RunsL.value rfl rfl rfl
                  refine oblsL_cons rfl rfl rfl ?_ ?_
                  · exact RunsL.value rfl rfl rfl
                  refine oblsL_cons rfl rfl rfl ?_ ?_
                  · exact RunsL.value rfl rfl rfl
                  refine oblsL_cons rfl rfl rfl ?_ ?_
                  · exact RunsL.value rfl rfl rfl
                  refine oblsL_cons rfl rfl rfl ?_ ?_
                  · apply RunsL.value rfl; (focus (go_simp; try exact rfl)); exact rfl
                  refine oblsL_cons rfl rfl rfl ?_ ?_
                  · apply RunsL.value rfl; (focus (go_simp; try exact rfl)); exact rfl
                  refine oblsL_cons rfl rfl rfl ?_ ?_
                  · apply RunsL.value rfl; (focus (go_simp; try exact rfl)); exact rfl
                  refine oblsL_cons rfl rfl rfl ?_ ?_
                  · apply RunsL.value rfl; (focus (go_simp; try exact rfl)); exact rfl
                  refine oblsL_cons rfl rfl rfl ?_ ?_
                  · exact RunsL.append rfl _ _ _ _ rfl _ _ _ rfl rfl hrB rfl
                  refine oblsL_cons rfl rfl rfl ?_ ?_
                  · exact RunsL.value rfl rfl rfl
                  exact oblsL_nil
                case hend15p =>
                  go_wp2_with fail
                  go_meet
                  exact HF.out
              · have hrv : restv bh offh hs.length ch K = .slice (some ⟨bh, offh + (K + 1), none⟩) (hs.length - (K + 1)) (ch - (K + 1)) := if_neg hcap
                rw [hrv] at hrB
                obtain ⟨hc0, hcI, hcJ⟩ := cut_facts2 hKlt hn1 hcap
                clear hrv
                refine wp_region_planL (aF := ?aF15n) (aR := ?aR15n) [3, 8] [[], [3], [3, 8]] 2 [(0, 0, 0), (1, 0, 0), (2, 0, 0), (3, 0, 1), (4, 0, 0), (4, 1, 1), (5, 0, 0), (5, 1, 1), (6, 0, 0), (6, 1, 1), (7, 0, 0), (7, 1, 1), (8, 1, 2), (9, 2, 2)] [9]
                  [w5.drew, wA, wB] [.slice (some ⟨bh, offh, none⟩) hs.length ch, .int .i64 K, .slice (some ⟨bh, offh, none⟩) K ch, vA, .slice (some ⟨bh, offh, none⟩) hs.length ch, .int .i64 K, .int .i64 ((K : Int) + 1), .slice (some ⟨bh, offh + (K + 1), none⟩) (hs.length - (K + 1)) (ch - (K + 1)), vB, vB]
                  (by kernel_rfl) (by kernel_rfl) ?hF15n ?hR15n rfl rfl rfl ?hob15n ?hend15n
                case hF15n => simp only [putAll, Act.put]; go_simp; rfl
                case hR15n => simp only [putAllL, Act.put]; go_simp; rfl
                case hob15n =>
                  refine oblsL_cons rfl rfl rfl ?_ ?_
                  · exact RunsL.value rfl rfl rfl
                  refine oblsL_cons rfl rfl rfl ?_ ?_
                  · exact RunsL.value rfl rfl rfl
                  refine oblsL_cons rfl rfl rfl ?_ ?_
                  · apply RunsL.value rfl; (focus (go_simp; try exact rfl)); exact rfl
                  refine oblsL_cons rfl rfl rfl ?_ ?_
                  · exact RunsL.append rfl _ _ _ _ rfl _ _ _ rfl rfl hrA rfl
                  refine oblsL_cons rfl rfl rfl ?_ ?_
                  · exact RunsL.value rfl rfl rfl
                  refine oblsL_cons rfl rfl rfl ?_ ?_
                  · exact RunsL.value rfl rfl rfl
                  refine oblsL_cons rfl rfl rfl ?_ ?_
                  · exact RunsL.value rfl rfl rfl
                  refine oblsL_cons rfl rfl rfl ?_ ?_
                  · exact RunsL.value rfl rfl rfl
                  refine oblsL_cons rfl rfl rfl ?_ ?_
                  · apply RunsL.value rfl; (focus (go_simp; try exact rfl)); exact rfl
                  refine oblsL_cons rfl rfl rfl ?_ ?_
                  · apply RunsL.value rfl; (focus (go_simp; try exact rfl)); exact rfl
                  refine oblsL_cons rfl rfl rfl ?_ ?_
                  · apply RunsL.value rfl; (focus (go_simp; try exact rfl)); exact rfl
                  refine oblsL_cons rfl rfl rfl ?_ ?_
                  · apply RunsL.value rfl; (focus (go_simp; try exact rfl)); exact rfl
                  refine oblsL_cons rfl rfl rfl ?_ ?_
                  · exact RunsL.append rfl _ _ _ _ rfl _ _ _ rfl rfl hrB rfl
                  refine oblsL_cons rfl rfl rfl ?_ ?_
                  · exact RunsL.value rfl rfl rfl
                  exact oblsL_nil
                case hend15n =>
                  go_wp2_with fail
                  go_meet
                  exact HF.out
            case rest =>
              have HM5 := Lib.hid hcut
              clear hcut
              go_upto_region 16 with fail
              go_cut [8] from 92 to 100 (fun v wx => MI w0 n g5 S1 u7 v (hs.take K ++ hs.drop (K + 1)) (ms.take K ++ ms.drop (K + 1)) wx)
              case first =>
                obtain ⟨vA, wA, vB, wB, hrA, hrB, hsB, htB, hbB⟩ := removal HM5.out.marks hKm hlenM
                have HF := Lib.hid (HM5.out.set_marks (htB.mono fun k _ h => .inr h) hsB (fun b hb => .inr (hbB b hb)))
                obtain ⟨hw96, hw97, hi1, hi2, hi3, hi4, hi5⟩ := cut_facts hKm hm1 hlenM
                clear hsB htB hbB
                by_cases hcap : cm = K + 1
                · have hrv : restv bm offm ms.length cm K = .slice (some ⟨bm, offm, none⟩) 0 0 := if_pos hcap
                  rw [hrv] at hrB
                  obtain ⟨p1, p2, p3, p4, p5, p6, p7⟩ := cut_facts1 hKm hm1 hcap
                  clear hi5 hcap
                  clear hrv
                  refine wp_region_planL (aF := ?aF16p) (aR := ?aR16p) [3, 8] [[], [3], [3, 8]] 2 [(0, 0, 0), (1, 0, 0), (2, 0, 0), (3, 0, 1), (4, 0, 0), (4, 1, 1), (5, 0, 0), (5, 1, 1), (6, 0, 0), (6, 1, 1), (7, 0, 0), (7, 1, 1), (8, 1, 2), (9, 2, 2)] [9]
                    [wc.drew, wA, wB] [.slice (some ⟨bm, offm, none⟩) ms.length cm, .int .i64 K, .slice (some ⟨bm, offm, none⟩) K cm, vA, .slice (some ⟨bm, offm, none⟩) ms.length cm, .int .i64 K, .int .i64 ((K : Int) + 1), .slice (some ⟨bm, offm, none⟩) 0 0, vB, vB]
                    (by kernel_rfl) (by kernel_rfl) ?hF16p ?hR16p rfl rfl rfl ?hob16p ?hend16p
                  case hF16p => simp only [putAll, Act.put]; go_simp; rfl
                  case hR16p => simp only [putAllL, Act.put]; go_simp; rfl
                  case hob16p =>
                    refine oblsL_cons rfl rfl rfl ?_ ?_
                    · exact RunsL.value rfl rfl rfl
                    refine oblsL_cons rfl rfl rfl ?_ ?_
                    · exact RunsL.value rfl rfl rfl
                    refine oblsL_cons rfl rfl rfl ?_ ?_
                    · apply RunsL.value rfl; (focus (go_simp; try exact rfl)); exact rfl
                    refine oblsL_cons rfl rfl rfl ?_ ?_
                    · exact RunsL.append rfl _ _ _ _ rfl _ _ _ rfl rfl hrA rfl
                    refine oblsL_cons rfl rfl rfl ?_ ?_
                    · exact RunsL.value rfl rfl rfl
                    refine oblsL_cons rfl rfl rfl ?_ ?_
                    · exact RunsL.value rfl rfl rfl
                    refine oblsL_cons rfl rfl rfl ?_ ?_
                    · exact RunsL.value rfl rfl rfl
                    refine oblsL_cons rfl rfl rfl ?_ ?_
                    · exact RunsL.value rfl rfl rfl
                    refine oblsL_cons rfl rfl rfl ?_ ?_
                    · apply RunsL.value rfl; (focus (go_simp; try exact rfl)); exact rfl
                    refine oblsL_cons rfl rfl rfl ?_ ?_
                    · apply RunsL.value rfl; (focus (go_simp; try exact rfl)); exact rfl
                    refine oblsL_cons rfl rfl rfl ?_ ?_
                    · apply RunsL.value rfl; (focus (go_simp; try exact rfl)); exact rfl
                    refine oblsL_cons rfl rfl rfl ?_ ?_
                    · apply RunsL.value rfl; (focus (go_simp; try exact rfl)); exact rfl
                    refine oblsL_cons rfl rfl rfl ?_ ?_
                    · exact RunsL.append rfl _ _ _ _ rfl _ _ _ rfl rfl hrB rfl
                    refine oblsL_cons rfl rfl rfl ?_ ?_
                    · exact RunsL.value rfl rfl rfl
                    exact oblsL_nil
                  case hend16p =>
                    go_wp2_with fail
                    go_meet
                    exact HF.out
                · have hrv : restv bm offm ms.length cm K = .slice (some ⟨bm, offm + (K + 1), none⟩) (ms.length - (K + 1)) (cm - (K + 1)) := if_neg hcap
                  rw [hrv] at hrB
                  obtain ⟨hc0, hcI, hcJ⟩ := cut_facts2 hKm hm1 hcap
                  clear hrv
                  refine wp_region_planL (aF := ?aF16n) (aR := ?aR16n) [3, 8] [[], [3], [3, 8]] 2 [(0, 0, 0), (1, 0, 0), (2, 0, 0), (3, 0, 1), (4, 0, 0), (4, 1, 1), (5, 0, 0), (5, 1, 1), (6, 0, 0), (6, 1, 1), (7, 0, 0), (7, 1, 1), (8, 1, 2), (9, 2, 2)] [9]
                    [wc.drew, wA, wB] [.slice (some ⟨bm, offm, none⟩) ms.length cm, .int .i64 K, .slice (some ⟨bm, offm, none⟩) K cm, vA, .slice (some ⟨bm, offm, none⟩) ms.length cm, .int .i64 K, .int .i64 ((K : Int) + 1), .slice (some ⟨bm, offm + (K + 1), none⟩) (ms.length - (K + 1)) (cm - (K + 1)), vB, vB]
                    (by kernel_rfl) (by kernel_rfl) ?hF16n ?hR16n rfl rfl rfl ?hob16n ?hend16n
                  case hF16n => simp only [putAll, Act.put]; go_simp; rfl
                  case hR16n => simp only [putAllL, Act.put]; go_simp; rfl
                  case hob16n =>
                    refine oblsL_cons rfl rfl rfl ?_ ?_
                    · exact RunsL.value rfl rfl rfl
                    refine oblsL_cons rfl rfl rfl ?_ ?_
                    · exact RunsL.value rfl rfl rfl
                    refine oblsL_cons rfl rfl rfl ?_ ?_
                    · apply RunsL.value rfl; (focus (go_simp; try exact rfl)); exact rfl
                    refine oblsL_cons rfl rfl rfl ?_ ?_
                    · exact RunsL.append rfl _ _ _ _ rfl _ _ _ rfl rfl hrA rfl
                    refine oblsL_cons rfl rfl rfl ?_ ?_
                    · exact RunsL.value rfl rfl rfl
                    refine oblsL_cons rfl rfl rfl ?_ ?_
                    · exact RunsL.value rfl rfl rfl
                    refine oblsL_cons rfl rfl rfl ?_ ?_
                    · exact RunsL.value rfl rfl rfl
                    refine oblsL_cons rfl rfl rfl ?_ ?_
                    · exact RunsL.value rfl rfl rfl
                    refine oblsL_cons rfl rfl rfl ?_ ?_
                    · apply RunsL.value rfl; (focus (go_simp; try exact rfl)); exact rfl
                    refine oblsL_cons rfl rfl rfl ?_ ?_
                    · apply RunsL.value rfl; (focus (go_simp; try exact rfl)); exact rfl
                    refine oblsL_cons rfl rfl rfl ?_ ?_
                    · apply RunsL.value rfl; (focus (go_simp; try exact rfl)); exact rfl
                    refine oblsL_cons rfl rfl rfl ?_ ?_
                    · apply RunsL.value rfl; (focus (go_simp; try exact rfl)); exact rfl
                    refine oblsL_cons rfl rfl rfl ?_ ?_
                    · exact RunsL.append rfl _ _ _ _ rfl _ _ _ rfl rfl hrB rfl
                    refine oblsL_cons rfl rfl rfl ?_ ?_
                    · exact RunsL.value rfl rfl rfl
                    exact oblsL_nil
                  case hend16n =>
                    go_wp2_with fail
                    go_meet
                    exact HF.out
              case rest =>
                have HM6 := Lib.hid hcut
                clear hcut
                go_wp2_with fail
                go_roundg (gk - 1)
                case measure => have := HJ.out; omega
                case rel =>
                  have hjj := HJ.out
                  have e1 : l.length - (gk - 1) = j + 1 := by omega
                  rw [e1]
                  exact ⟨by omega, by go_num, g5, S1, _, _, HM6.out, hR.out.2.2.2.1, by simp; omega, HM4.out.2⟩
        · rw [decide_eq_false hA]
          have hfail := get_err0 HM.out.repo.ok p
          have hstart := fun (S3 : St) (A : Int) (e : get S p = (S3, A, 0)) => kw_start HM.out.repo.ok HH.out e
          have hget := get_full HM.out.repo HG.out p
          obtain ⟨⟨S3, A, E⟩, hgt⟩ : ∃ r, get S p = r := ⟨_, rfl⟩
          rw [hgt] at hfail hget
          simp only at hfail hget
          have HF := Lib.hid (And.intro hfail (And.intro hstart hgt))
          have HGET := Lib.hid hget
          clear hfail hstart hget hgt
          go_wp2_with fail
          refine HGET.out.mono ?_
          rintro e3 w3 ⟨rfl, g3, r3, s3⟩
          have hM3 := HM.out.step r3 s3
          have HM3 := Lib.hid (And.intro hM3 (s3.s.trans HG.out))
          clear hM3 r3 s3
          by_cases hE : E = 0
          · subst hE
            obtain ⟨m, hsz, hkm, hm, hA0, hA1, hok3, hKW⟩ := HF.out.2.1 _ _ HF.out.2.2
            have hsc := size_calls HM3.out.1.repo HM3.out.2 A
            rw [hsz] at hsc
            have HSC := Lib.hid hsc
            have HKW := Lib.hid hKW
            clear hsc hsz hok3 hKW
            go_wp2_with fail
            refine HSC.out.mono ?_
            rintro e4 w4 ⟨rfl, hB4⟩
            have HM4 := Lib.hid (HM3.out.1.below hB4)
            have dk : decide ((m : Int) < p) = false := by simp; omega
            clear hB4
            obtain ⟨go, rfl⟩ : ∃ go, go = gk := ⟨_, rfl⟩
            go_wp2_with fail
            go_loopg [16] (m) (fun k x wx => k ≤ m ∧ x = .int .i64 ((m - k : Nat) : Int) ∧ ∃ g S, MI w0 n g S (.slice ah hs.length ch) (.slice am ms.length cm) hs ms wx ∧ KW S hs ms A m (m - k) ∧ g.s = s)
            case atStart => exact ⟨Nat.le_refl _, by simp, g3, S3, HM4.out, by simpa using HKW.out, HM3.out.2⟩
            case round =>
              obtain ⟨hk2, rfl, g4, S4, hM4, hW4, hg4⟩ := hrel
              obtain ⟨x, hx⟩ : ∃ x, m - gk = x := ⟨_, rfl⟩
              rw [hx] at hW4 ⊢
              have HX := Lib.hid hx
              have HM5 := Lib.hid (And.intro hM4 (And.intro hW4 hg4))
              clear hx hM4 hW4 hg4
              by_cases hxm : x < m
              · have hrd := kw_read HM5.out.1.repo.ok HM5.out.2.1 hxm
                obtain ⟨f1, f2, f3, f4, f5⟩ := keep_wf hA0 hA1 hm hxm
                obtain ⟨S6, hwr, hok6, hW6⟩ := kw_write HM5.out.1.repo.ok HM5.out.2.1 hxm f1
                have hrc := read_calls HM5.out.1.repo HM5.out.2.2 A x
                rw [hrd] at hrc
                have HRC := Lib.hid hrc
                have HWR := Lib.hid (And.intro hwr (And.intro hok6 hW6))
                clear hrc hrd hwr hok6 hW6
                go_wp2_with fail
                refine HRC.out.mono ?_
                rintro e5 w5 ⟨rfl, hB5⟩
                have hM6 := HM5.out.1.below hB5
                have hwc := write_calls hM6.repo HM5.out.2.2 A x (1000 * A + x) f1
                rw [HWR.out.1] at hwc
                have HWC := Lib.hid hwc
                have HM6 := Lib.hid hM6
                clear hwc hM6 hB5 f1
                go_wp2_with fail
                refine HWC.out.mono ?_
                rintro e6 w6 ⟨rfl, g6, r6, s6⟩
                have HM7 := Lib.hid (And.intro (HM6.out.step r6 s6) (s6.s.trans HM5.out.2.2))
                clear r6 s6
                go_wp2_with fail
                go_roundg (gk - 1)
                case measure => have := HX.out; omega
                case rel =>
                  have hxx := HX.out
                  have e1 : m - (gk - 1) = x + 1 := by omega
                  rw [e1]
                  exact ⟨by omega, by go_num, g6, S6, HM7.out.1, HWR.out.2.2, HM7.out.2⟩
              · have hxe : m = x := by have := HX.out; omega
                clear HX
                subst hxe
                have hM6 := HM5.out.1.below ((Below.refl wr.heap.size wr).alloc (Nat.le_refl _) (.cells #[.int .i64 A] 3))
                have HM6 := Lib.hid hM6
                clear hM6
                go_wp2_with (first
                  | (at_builtin; refine wpList_append _ rfl _ _ 24 24 rfl 3 1 8 (.int .i64 0) Try.underlying24 (.inr ⟨_, Try.underlying24⟩) elemInt (.slice ah hs.length ch) _ rfl HM6.out.held _ _ _ rfl (Src.one rfl (heap_alloc_new wr _)) (by intro u hu; simp at hu; subst hu; rfl) (by simp; omega) (by simp; omega) ?_
                     intro v6 w6 hv6 ht6 hw6 hn6
                     have hM7 := (HM6.out.set_held (ht6.mono fun k _ h => .inl h) (l := hs ++ [A]) (by rw [icells_append]; exact hv6) (fun b hb => by
                       rcases hw6 with q | q
                       · exact .inl (q ▸ hb)
                       · rw [q] at hb; cases hb; exact .inr (Nat.le_refl _))).below ((Below.refl w6.heap.size w6).alloc (Nat.le_refl _) (.cells #[.int .i64 (m : Int)] 3))
                     have HM7 := Lib.hid hM7
                     clear hM7 hv6 ht6 hw6 hn6)
                  | (at_builtin; refine wpList_append _ rfl _ _ 24 24 rfl 3 1 8 (.int .i64 0) Try.underlying24 (.inr ⟨_, Try.underlying24⟩) elemInt (.slice am ms.length cm) _ rfl HM7.out.marks _ _ _ rfl (Src.one rfl (heap_alloc_new w6 _)) (by intro u hu; simp at hu; subst hu; rfl) (by simp; omega) (by simp; omega) ?_
                     intro v7 w7 hv7 ht7 hw7 hn7
                     have hM8 := HM7.out.set_marks (ht7.mono fun k _ h => .inl h) (l := ms ++ [(m : Int)]) (by rw [icells_append]; exact hv7) (fun b hb => by
                       rcases hw7 with q | q
                       · exact .inl (q ▸ hb)
                       · rw [q] at hb; cases hb; exact .inr (Nat.le_refl _))
                     have HM8 := Lib.hid hM8
                     clear hM8 hv7 ht7 hw7 hn7))
                go_roundg (go - 1)
                case measure => have := HJ.out; omega
                case rel =>
                  have hjj := HJ.out
                  have e1 : l.length - (go - 1) = j + 1 := by omega
                  rw [e1]
                  exact ⟨by omega, by go_num, g4, S4, _, _, HM8.out, kw_end HM5.out.2.1, by simp; omega, HM5.out.2.2⟩
          · have dE : (E == 0) = false := beq_eq_false_iff_ne.2 hE
            have hS3 : S3 = S := HF.out.1 hE
            subst hS3
            go_wp2_with fail
            go_roundg (gk - 1)
            case measure => have := HJ.out; omega
            case rel =>
              have hjj := HJ.out
              have e1 : l.length - (gk - 1) = j + 1 := by omega
              rw [e1]
              exact ⟨by omega, by go_num, g3, _, _, _, HM3.out.1, HH.out, Nat.le_succ_of_le hle, HM3.out.2⟩
    · have HMI := Lib.hid (And.intro hMI hHH)
      clear hMI hHH
      obtain rfl : j = l.length := by have := HJ.out; omega
      obtain ⟨ah, ch, rfl, hn1, hn2, hch⟩ := ints_form HMI.out.1.held
      obtain ⟨am, cm, rfl, hm1, hm2, hcm⟩ := ints_form HMI.out.1.marks
      clear hch hcm
      go_wp2
      go_loopg [19] (hs.length) (fun k i wx => k ≤ hs.length ∧ i = .int .i64 ((hs.length - k : Nat) : Int) ∧ ∃ g S, MI w0 n g S (.slice ah hs.length ch) (.slice am ms.length cm) hs ms wx ∧ KH S (hs.drop (hs.length - k)) (ms.drop (hs.length - k)) ∧ g.s = s)
      case atStart => exact ⟨Nat.le_refl _, by simp, g, S, HMI.out.1, by simpa using HMI.out.2, hgs⟩
      case round =>
        obtain ⟨hk, rfl, g2, S2, hM2, hH2, hg2⟩ := hrel
        obtain ⟨i, hi⟩ : ∃ i, hs.length - gk = i := ⟨_, rfl⟩
        rw [hi] at hH2 ⊢
        have HJ2 := Lib.hid hi
        have HM2 := Lib.hid (And.intro hM2 (And.intro hH2 hg2))
        clear hi hM2 hH2 hg2
        by_cases hli : i < hs.length
        · have hlt2 : 0 < (hs.drop i).length := by rw [List.length_drop]; omega
          obtain ⟨a1, m, ha1, hv1, hm32, hA0, hA1, hreads⟩ := kh_read HM2.out.1.repo.ok HM2.out.2.1 hlt2
          obtain ⟨a1', S1, ha1', hput, -, hok1, hH1⟩ := kh_put HM2.out.1.repo.ok HM2.out.2.1 hlt2
          have : a1' = a1 := by rw [ha1] at ha1'; exact (Option.some.inj ha1').symm
          subst this
          have hil : i < ms.length := by have := HMI.out.2.len; omega
          have ha2 : hs[i]? = some a1' := by rw [List.getElem?_drop] at ha1; exact ha1
          have hv2 : ms[i]? = some (m : Int) := by rw [List.getElem?_drop] at hv1; exact hv1
          obtain ⟨b1, o1, rfl⟩ := HM2.out.1.held.addr (by omega)
          obtain ⟨b2, o2, rfl⟩ := HM2.out.1.marks.addr (by omega)
          have hR := Lib.hid (And.intro hreads (And.intro hput (And.intro hok1 (And.intro hH1 (And.intro ha2 hv2)))))
          clear hreads hput hok1 hH1 ha1 hv1 ha1' ha2 hv2 hlt2
          obtain ⟨go, rfl⟩ : ∃ go, go = gk := ⟨_, rfl⟩
          obtain ⟨wo, rfl⟩ : ∃ wo : World, wo = wr := ⟨_, rfl⟩
          go_wp2_with fail
          go_loopg [20] (m) (fun k x wx => k ≤ m ∧ x = .int .i64 ((m - k : Nat) : Int) ∧ MI w0 n g2 S2 (.slice (some ⟨b1, o1, none⟩) hs.length ch) (.slice (some ⟨b2, o2, none⟩) ms.length cm) hs ms wx)
          case atStart => exact ⟨Nat.le_refl _, by simp, HM2.out.1⟩
          case round =>
            obtain ⟨hk2, rfl, hM3⟩ := hrel
            obtain ⟨x, hx⟩ : ∃ x, m - gk = x := ⟨_, rfl⟩
            rw [hx]
            have HX := Lib.hid hx
            have hce := hM3.held.cells i (.int .i64 a1') (by simp [icells, hR.out.2.2.2.2.1])
            have hcf := hM3.marks.cells i (.int .i64 (m : Int)) (by simp [icells, hR.out.2.2.2.2.2])
            have HM3 := Lib.hid hM3
            clear hx hM3
            by_cases hxm : x < m
            · have hrc := read_calls HM3.out.repo HM2.out.2.2 a1' x
              rw [hR.out.1 x hxm] at hrc
              have HRC := Lib.hid hrc
              obtain ⟨f1, f2, f3, f4, f5⟩ := keep_wf hA0 hA1 (Nat.le_trans hm32 (by decide)) hxm
              clear hrc f1
              go_wp2_with fail
              refine HRC.out.mono ?_
              rintro e5 w5 ⟨rfl, hB5⟩
              have hce5 : w5.cell? ⟨b1, o1 + i, none⟩ = some (.int .i64 a1') := (hB5.cell (p := ⟨b1, o1 + i, none⟩) (cell_lt hce)).trans hce
              have HM4 := Lib.hid (HM3.out.below hB5)
              clear hB5 hce hcf
              go_wp2_with fail
              go_roundg (gk - 1)
              case measure => have := HX.out; omega
              case rel =>
                have hxx := HX.out
                have e1 : m - (gk - 1) = x + 1 := by omega
                rw [e1]
                exact ⟨by omega, by go_num, HM4.out⟩
            · have hxe : m = x := by have := HX.out; omega
              clear HX
              subst hxe
              go_wp2_with fail
              refine (put_calls HM3.out.repo HM2.out.2.2 a1').mono ?_
              rintro e4 w4 ⟨rfl, g4, r4, s4⟩
              rw [hR.out.2.1] at r4 ⊢
              have HM4 := Lib.hid (And.intro (HM3.out.step r4 s4) (s4.s.trans HM2.out.2.2))
              clear r4 s4 hce hcf
              go_wp2_with fail
              go_roundg (go - 1)
              case measure => have := HJ2.out; omega
              case rel =>
                have hjj := HJ2.out
                have e1 : hs.length - (go - 1) = i + 1 := by omega
                rw [e1]
                refine ⟨by omega, by go_num, g4, S1, HM4.out.1, ?_, HM4.out.2⟩
                have := hR.out.2.2.2.1
                simpa using this
        · obtain rfl : i = hs.length := by have := HJ2.out; omega
          have hS2 : S2 = [hole n] := by
            have h1 := HM2.out.2.1
            rw [List.drop_length, HMI.out.2.len, List.drop_length] at h1
            have := kh_none HM2.out.1.repo.ok h1
            rw [HM2.out.1.gn] at this; exact this
          subst hS2
          go_wp2_with fail
          refine (blocks_calls HM2.out.1.repo HM2.out.2.2).mono ?_
          rintro e5 w5 ⟨vB, rfl, hvB, hB5, hoB⟩
          have hM5 := HM2.out.1.below hB5
          obtain ⟨aB, cB, rfl, hB1, hB3, hcB⟩ := blocks_form hvB
          obtain ⟨b3, o3, rfl, k0, k1, k2⟩ := hcB 0 (0, n, true) rfl
          simp only [Nat.zero_mul, Nat.add_zero] at k0 k1 k2
          have hlen1 : (blocks 0 [hole n]).length = 1 := rfl
          rw [hlen1]
          have HO := Lib.hid hM5.old
          clear hM5 hvB hB5 hoB hcB hlen1
          go_wp2_with fail
          refine (awake_calls w5).mono ?_
          rintro e6 w6 ⟨rfl, o6⟩
          go_wp2
          go_ret
          exact ⟨rfl, HO.out.then_ o6⟩

set_option maxRecDepth 100000 in
theorem keeps_calls (w0 : World) (n : Int) (l : List Int) (a : Option Addr) (cap : Nat) (hin : IntsC w0 a l) (hwf : ∀ p ∈ l, (Lit.int .i64 p).wf = true) :
    Calls Try.prog 5 #[.int .i64 n, .slice a l.length cap] w0 fun e w' => e = .returned (.bool true) ∧ Old w0 w' := by
  by_cases h2 : l.length ≤ 40
  · have q2 : decide ((40 : Int) < (l.length : Int)) = false := by simp; omega
    have q3 : decide (40 < l.length) = false := by simp; omega
    by_cases h3 : 4 ≤ n ∧ n ≤ 32000 ∧ n % 2 = 0
    · by_cases h1 : n ≤ 4000
      · obtain ⟨m, rfl⟩ := Int.eq_ofNat_of_zero_le (by omega : 0 ≤ n)
        exact keeps_good w0 m (by omega) (by omega) (by omega) l a cap h2 hin hwf
      · have q1 : decide ((4000 : Int) < n) = true := by simp; omega
        have q4 : decide (n ≤ 32000) = true := by simp; omega
        clear hin hwf h1 h3
        go_enter Try.func5, Try.ntmps5
        go_wp2_with fail
        refine (awake_calls w0).mono ?_
        rintro e6 w6 ⟨rfl, o6⟩
        go_wp2
        go_ret
        exact ⟨rfl, o6⟩
    · have hb := Lib.hid (new_bad n h3 w0)
      by_cases h1 : n ≤ 4000
      · have q1 : decide ((4000 : Int) < n) = false := by simp; omega
        clear hin hwf h3 h1
        go_enter Try.func5, Try.ntmps5
        go_wp2_with fail
        refine hb.out.mono ?_
        rintro e1 w1 ⟨rfl, rfl⟩
        go_wp2_with fail
        refine (awake_calls w1).mono ?_
        rintro e6 w6 ⟨rfl, o6⟩
        go_wp2
        go_ret
        exact ⟨rfl, o6⟩
      · have q1 : decide ((4000 : Int) < n) = true := by simp; omega
        by_cases h4 : n ≤ 32000
        · have q4 : decide (n ≤ 32000) = true := by simp; omega
          clear hin hwf h1 h3 h4
          go_enter Try.func5, Try.ntmps5
          go_wp2_with fail
          refine (awake_calls w0).mono ?_
          rintro e6 w6 ⟨rfl, o6⟩
          go_wp2
          go_ret
          exact ⟨rfl, o6⟩
        · have q4 : decide (n ≤ 32000) = false := by simp; omega
          clear hin hwf h1 h3 h4
          go_enter Try.func5, Try.ntmps5
          go_wp2_with fail
          refine hb.out.mono ?_
          rintro e1 w1 ⟨rfl, rfl⟩
          go_wp2_with fail
          refine (awake_calls w1).mono ?_
          rintro e6 w6 ⟨rfl, o6⟩
          go_wp2
          go_ret
          exact ⟨rfl, o6⟩
  · have q2 : decide ((40 : Int) < (l.length : Int)) = true := by simp; omega
    have q3 : decide (40 < l.length) = true := by simp; omega
    clear hin hwf h2
    go_enter Try.func5, Try.ntmps5
    go_wp2_with fail
    refine (awake_calls w0).mono ?_
    rintro e6 w6 ⟨rfl, o6⟩
    go_wp2
    go_ret
    exact ⟨rfl, o6⟩
end Go.Sto
