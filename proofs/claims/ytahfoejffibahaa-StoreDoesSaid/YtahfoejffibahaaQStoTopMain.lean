/-
  TopStores, walked.
-/
import Derived.Deep.CutRange
import Derived.Deep.LoopGhost
import Derived.Test.YtahfoejffibahaaQStoTop
import Derived.Test.YtahfoejffibahaaQOwnRegionL
import Derived.Test.YtahfoejffibahaaQStoPure2
set_option linter.unusedVariables false

namespace Go.Sto
open Go.Own Go.RowKit Go.Proofs

theorem Old.then_ {a b c : World} (h : Old a b) (k : Old b c) : Old a c :=
  ⟨k.os.trans h.os, k.tape.trans h.tape, k.output.trans h.output, Nat.le_trans h.size k.size, fun i hi hn => by
    have := h.size
    rw [k.block i (by omega) (fun hh => by omega)]; exact h.block i hi hn⟩

def TI (w0 : World) (n j : Nat) (s : Nat) (vh vm : Value) (w : World) : Prop :=
  ∃ g S hs ms, MI w0 n g S vh vm hs ms w ∧ HeldH S hs ms ∧ hs.length ≤ j ∧ g.s = s

set_option maxRecDepth 100000 in
set_option maxHeartbeats 4000000 in
theorem top_good (w0 : World) (n : Nat) (h0 : 4 ≤ n) (h1 : n ≤ 4000) (h2 : n % 2 = 0) (l : List (Int × Int)) (a : Option Addr) (cap : Nat) (hl : l.length ≤ 60) (hin : PIn w0 a l) (hwf : ∀ p ∈ l, (Lit.int .i64 p.1).wf = true ∧ (Lit.int .i64 p.2).wf = true) :
    Calls Try.prog 11 #[.int .i64 n, .slice a l.length cap] w0 fun e w' => e = .returned (.bool true) ∧ Old w0 w' := by
  have q1 : decide ((4000 : Int) < (n : Int)) = false := by simp; omega
  have q2 : decide ((60 : Int) < (l.length : Int)) = false := by simp; omega
  have q1' : decide (4000 < n) = false := by simp; omega
  have q2' : decide (60 < l.length) = false := by simp; omega
  have HI := Lib.hid (And.intro hin hwf)
  clear hin hwf
  go_enter Try.func11, Try.ntmps11
  go_wp2_with fail
  refine (new_good n h0 (by omega) h2 w0).mono ?_
  rintro e1 w1 ⟨g1, rfl, hgn, r1, hB1, htag, hk1⟩
  have start : TI w0 n 0 g1.s (.slice none 0 0) (.slice none 0 0) w1 :=
    ⟨g1, newS n, [], [], { repo := r1, gn := hgn, held := SliceAt.nil _ _ _, marks := SliceAt.nil _ _ _, th := fun b hb => by simp [Value.ownBlock] at hb, tm := fun b hb => by simp [Value.ownBlock] at hb, apart := fun b hb => by simp [Value.ownBlock] at hb,
                            old := ⟨hB1.os, hB1.tape, hB1.output, hB1.size, fun k hk _ => hB1.block k hk⟩, tags := fun k hk => by rw [htag k hk] }, ⟨[], by simp [newS, U, hole], rfl, rfl⟩, by simp, rfl⟩
  obtain ⟨s, hs⟩ : ∃ s, g1.s = s := ⟨_, rfl⟩
  rw [hs] at start ⊢
  have HST := Lib.hid start
  clear start r1 hB1 htag hk1 hgn hs
  go_wp2
  go_loopg [7, 8, 9] (l.length) (fun k vh vm i wr => k ≤ l.length ∧ i = .int .i64 ((l.length - k : Nat) : Int) ∧ TI w0 n (l.length - k) s vh vm wr)
  case atStart => exact ⟨Nat.le_refl _, by simp, by simpa using HST.out⟩
  case round =>
    obtain ⟨hk, rfl, hTI⟩ := hrel
    obtain ⟨j, hj⟩ : ∃ j, l.length - gk = j := ⟨_, rfl⟩
    rw [hj] at hTI ⊢
    have HJ := Lib.hid hj
    clear hj
    obtain ⟨g, S, hs, ms, hMI, hHH, hle, hgs⟩ := hTI
    by_cases hlt : j < l.length
    · go_wp2_with fail
      refine (blocks_calls hMI.repo hgs).mono ?_
      rintro e2 w2 ⟨vB, rfl, hvB, hB2, hoB⟩
      have hM2 := hMI.below hB2
      have hoBt : ∀ k, vB.ownBlock = some k → (g.ρ k).1 = 0 := fun k hk => hMI.repo.rep.fresh k (hoB k hk)
      obtain ⟨p, hp⟩ : ∃ p, l[j]? = some p := ⟨_, List.getElem?_eq_getElem hlt⟩
      obtain ⟨b, off, rfl, hc⟩ := (HI.out.1.old hM2.old).resolve_left (by intro e; rw [e] at hlt; simp at hlt)
      obtain ⟨c0, c1⟩ := hc j p hp
      obtain ⟨ah, ch, rfl, hn1, hn2, hch⟩ := ints_form hM2.held
      obtain ⟨am, cm, rfl, hm1, hm2, hcm⟩ := ints_form hM2.marks
      obtain ⟨aB, cB, rfl, hB1, hB3, -⟩ := blocks_form hvB
      have HM := Lib.hid hM2
      have HH := Lib.hid hHH
      have HG := Lib.hid hgs
      have HB := Lib.hid (And.intro hvB hoBt)
      have HP := Lib.hid (And.intro hp (And.intro (HI.out.2 p (List.mem_of_getElem? hp)) (And.intro c0 c1)))
      have HCH := Lib.hid hch
      have HCM := Lib.hid hcm
      clear hMI hHH hgs hvB hp hM2 hc hB2 hoB hoBt hch hcm
      go_upto_region 11 with fail
      go_cut [57] from 46 to 57 (fun c wx => c = .bool (decide (p.1.tmod 3 = 0 ∧ 0 < hs.length)) ∧ wx = w2)
      case first =>
        by_cases h3 : p.1.tmod 3 = 0
        · by_cases hps : 0 < hs.length
          · go_wp2_with fail
            go_meet
            exact ⟨by simp [h3, hps], rfl⟩
          · go_wp2_with fail
            go_meet
            exact ⟨by simp [hps], rfl⟩
        · go_wp2_with fail
          go_meet
          exact ⟨by simp [h3], rfl⟩
      case rest =>
        obtain ⟨rfl, rfl⟩ := hcut
        go_upto_if 57 with fail
        go_cut [7, 8] from 38 to 164 (fun vh vm wx => TI w0 n (j + 1) s vh vm wx)
        case first =>
          by_cases hA : p.1.tmod 3 = 0 ∧ 0 < hs.length
          · obtain ⟨hA1, hA2⟩ := hA
            rw [decide_eq_true (show p.1.tmod 3 = 0 ∧ 0 < hs.length from ⟨hA1, hA2⟩)]
            obtain ⟨K, hK⟩ : ∃ K, p.2.toNat % hs.length = K := ⟨_, rfl⟩
            have hKlt : K < hs.length := by rw [← hK]; exact Nat.mod_lt _ hA2
            have HK := Lib.hid hK
            clear hK
            go_upto_region 12 with fail
            go_cut [11] from 58 to 66 (fun kv wx => kv = .int .i64 (K : Nat) ∧ wx = wc)
            case first =>
              have hzd : (((hs.length : Nat) : Int) == 0) = false := beq_eq_false_iff_ne.2 (by omega)
              have hzd2 : ¬ ((hs.length : Nat) : Int) = 0 := by omega
              by_cases hp2 : 0 < p.2
              · obtain ⟨m2, hm2'⟩ : ∃ m : Nat, p.2 = m := ⟨p.2.toNat, by omega⟩
                have hres : Int.tmod p.2 hs.length = (K : Int) := by
                  rw [← HK.out, hm2', Int.toNat_natCast]; rfl
                have hle2 : ¬ p.2 ≤ 0 := by omega
                have hwf2 : -9223372036854775808 ≤ p.2 ∧ p.2 ≤ 9223372036854775807 := by
                  have := HP.out.2.1.2
                  unfold Lit.wf at this
                  rw [Bool.and_eq_true, decide_eq_true_eq, decide_eq_true_eq] at this
                  exact this
                have hwr : IntKind.i64.wrap (K : Int) = K := IntWalk.i64_in _ (by omega)
                clear hm2'
                go_wp2_with fail
                all_goals go_meet
                all_goals first
                  | (exfalso; omega)
                  | (refine ⟨?_, rfl⟩; simp; done)
              · have hres : K = 0 := by rw [← HK.out, show p.2.toNat = 0 from by omega]; simp
                have hle2 : p.2 ≤ 0 := by omega
                go_wp2_with fail
                all_goals go_meet
                all_goals first
                  | (exfalso; omega)
                  | (refine ⟨?_, rfl⟩; have hz0 : p.2 = 0 := by omega
                     simp [hz0, hres]; done)
                  | (refine ⟨?_, rfl⟩; simp [hres]; done)
            case rest =>
              obtain ⟨rfl, rfl⟩ := hcut
              obtain ⟨a1, v1, S1, ha1, hv1, hread, hput, hok1, hH1⟩ := held_put HM.out.repo.ok HH.out hKlt
              have hKm : K < ms.length := HH.out.len ▸ hKlt
              have hlenH : hs.length ≤ 1000 := Nat.le_trans hle (Nat.le_trans (Nat.le_of_lt hlt) (Nat.le_trans hl (by decide)))
              have hlenM : ms.length ≤ 1000 := HH.out.len ▸ hlenH
              obtain ⟨bh, offh, rfl, hce⟩ := HCH.out K a1 ha1
              obtain ⟨bm, offm, rfl, hcf⟩ := HCM.out K v1 hv1
              have hR := Lib.hid (And.intro hread (And.intro hput (And.intro hok1 (And.intro hH1 (And.intro ha1 hv1)))))
              clear hread hput hok1 hH1 ha1 hv1 hcf
              go_wp2_with fail
              refine (read_calls HM.out.repo HG.out a1 0).mono ?_
              rintro e3 w3 ⟨rfl, hB3⟩
              rw [hR.out.1]
              have hM3 := HM.out.below hB3
              have hce3 : w3.cell? ⟨bh, offh + K, none⟩ = some (.int .i64 a1) := (hB3.cell (p := ⟨bh, offh + K, none⟩) (cell_lt hce)).trans hce
              have HM3 := Lib.hid hM3
              clear hM3 hB3 hce
              go_wp2_with fail
              refine (put_calls HM3.out.repo HG.out a1).mono ?_
              rintro e4 w4 ⟨rfl, g4, r4, s4⟩
              rw [hR.out.2.1] at r4 ⊢
              have hM4 := HM3.out.step r4 s4
              have hcf4 := hM4.marks.cells K (.int .i64 v1) (by simp [icells, hR.out.2.2.2.2.2])
              have HM4 := Lib.hid (And.intro hM4 s4.s)
              clear hM4 r4 s4 hce3
              go_upto_region 17 with fail
              go_cut [7] from 96 to 104 (fun v wx => MI w0 n g4 S1 v (.slice (some ⟨bm, offm, none⟩) ms.length cm) (hs.take K ++ hs.drop (K + 1)) ms wx)
              case first =>
                obtain ⟨vA, wA, vB, wB, hrA, hrB, hsB, htB, hbB⟩ := removal HM4.out.1.held hKlt hlenH
                have HF := Lib.hid (HM4.out.1.set_held (htB.mono fun k _ h => .inr h) hsB (fun b hb => .inr (hbB b hb)))
                obtain ⟨hw96, hw97, hi1, hi2, hi3, hi4, hi5⟩ := cut_facts hKlt hn1 hlenH
                clear hsB htB hbB
                by_cases hcap : ch = K + 1
                · have hrv : restv bh offh hs.length ch K = .slice (some ⟨bh, offh, none⟩) 0 0 := if_pos hcap
                  rw [hrv] at hrB
                  obtain ⟨p1, p2, p3, p4, p5, p6, p7⟩ := cut_facts1 hKlt hn1 hcap
                  clear hi5 hcap
                  clear hrv
                  refine wp_region_planL (aF := ?aF17p) (aR := ?aR17p) [3, 8] [[], [3], [3, 8]] 2 [(0, 0, 0), (1, 0, 0), (2, 0, 0), (3, 0, 1), (4, 0, 0), (4, 1, 1), (5, 0, 0), (5, 1, 1), (6, 0, 0), (6, 1, 1), (7, 0, 0), (7, 1, 1), (8, 1, 2), (9, 2, 2)] [9]
                    [w4.drew, wA, wB] [.slice (some ⟨bh, offh, none⟩) hs.length ch, .int .i64 K, .slice (some ⟨bh, offh, none⟩) K ch, vA, .slice (some ⟨bh, offh, none⟩) hs.length ch, .int .i64 K, .int .i64 ((K : Int) + 1), .slice (some ⟨bh, offh, none⟩) 0 0, vB, vB]
                    (by kernel_rfl) (by kernel_rfl) ?hF17p ?hR17p rfl rfl rfl ?hob17p ?hend17p
                  case hF17p => simp only [putAll, Act.put]; go_simp; rfl
                  case hR17p => simp only [putAllL, Act.put]; go_simp; rfl
                  case hob17p =>
                    refine oblsL_cons rfl rfl rfl ?_ ?_
                    · exact RunsL.value rfl rfl rfl
                    refine oblsL_cons rfl rfl rfl ?_ ?_
                    · exact RunsL.value rfl rfl rfl
                    refine oblsL_cons rfl rfl rfl ?_ ?_
                    · apply RunsL.value rfl; (focus (go_simp; try exact rfl)); exact rfl
                    refine oblsL_cons rfl rfl rfl ?_ ?_
                    · exact RunsL.append rfl _ _ _ _ rfl _ _ _ rfl rfl hrA rfl
                    refine oblsL_cons rfl rfl rfl ?_ ?_
                    · exact RunsL.value rfl rfl rfl
                    refine oblsL_cons rfl rfl rfl ?_ ?_
                    · exact RunsL.value rfl rfl rfl
                    refine oblsL_cons rfl rfl rfl ?_ ?_
                    · exact RunsL.value rfl rfl rfl
                    refine oblsL_cons rfl rfl rfl ?_ ?_
                    · exact RunsL.value rfl rfl rfl
                    refine oblsL_cons rfl rfl rfl ?_ ?_
                    · apply RunsL.value rfl; (focus (go_simp; try exact rfl)); exact rfl
                    refine oblsL_cons rfl rfl rfl ?_ ?_
                    · apply RunsL.value rfl; (focus (go_simp; try exact rfl)); exact rfl
                    refine oblsL_cons rfl rfl rfl ?_ ?_
                    · apply RunsL.value rfl; (focus (go_simp; try exact rfl)); exact rfl
                    refine oblsL_cons rfl rfl rfl ?_ ?_
                    · apply RunsL.value rfl; (focus (go_simp; try exact rfl)); exact rfl
                    refine oblsL_cons rfl rfl rfl ?_ ?_
                    · exact RunsL.append rfl _ _ _ _ rfl _ _ _ rfl rfl hrB rfl
                    refine oblsL_cons rfl rfl rfl ?_ ?_
                    · exact RunsL.value rfl rfl rfl
                    exact oblsL_nil
                  case hend17p =>
                    go_wp2_with fail
                    go_meet
                    exact HF.out
                · have hrv : restv bh offh hs.length ch K = .slice (some ⟨bh, offh + (K + 1), none⟩) (hs.length - (K + 1)) (ch - (K + 1)) := if_neg hcap
                  rw [hrv] at hrB
                  obtain ⟨hc0, hcI, hcJ⟩ := cut_facts2 hKlt hn1 hcap
                  clear hrv
                  refine wp_region_planL (aF := ?aF17n) (aR := ?aR17n) [3, 8] [[], [3], [3, 8]] 2 [(0, 0, 0), (1, 0, 0), (2, 0, 0), (3, 0, 1), (4, 0, 0), (4, 1, 1), (5, 0, 0), (5, 1, 1), (6, 0, 0), (6, 1, 1), (7, 0, 0), (7, 1, 1), (8, 1, 2), (9, 2, 2)] [9]
                    [w4.drew, wA, wB] [.slice (some ⟨bh, offh, none⟩) hs.length ch, .int .i64 K, .slice (some ⟨bh, offh, none⟩) K ch, vA, .slice (some ⟨bh, offh, none⟩) hs.length ch, .int .i64 K, .int .i64 ((K : Int) + 1), .slice (some ⟨bh, offh + (K + 1), none⟩) (hs.length - (K + 1)) (ch - (K + 1)), vB, vB]
                    (by kernel_rfl) (by kernel_rfl) ?hF17n ?hR17n rfl rfl rfl ?hob17n ?hend17n
                  case hF17n => simp only [putAll, Act.put]; go_simp; rfl
                  case hR17n => simp only [putAllL, Act.put]; go_simp; rfl
                  case hob17n =>
                    refine oblsL_cons rfl rfl rfl ?_ ?_
                    · exact RunsL.value rfl rfl rfl
                    refine oblsL_cons rfl rfl rfl ?_ ?_
                    · exact RunsL.value rfl rfl rfl
                    refine oblsL_cons rfl rfl rfl ?_ ?_
                    · apply RunsL.value rfl; (focus (go_simp; try exact rfl)); exact rfl
                    refine oblsL_cons rfl rfl rfl ?_ ?_
                    · exact RunsL.append rfl _ _ _ _ rfl _ _ _ rfl rfl hrA rfl
                    refine oblsL_cons rfl rfl rfl ?_ ?_
                    · exact RunsL.value rfl rfl rfl
                    refine oblsL_cons rfl rfl rfl ?_ ?_
                    · exact RunsL.value rfl rfl rfl
                    refine oblsL_cons rfl rfl rfl ?_ ?_
                    · exact RunsL.value rfl rfl rfl
                    refine oblsL_cons rfl rfl rfl ?_ ?_
                    · exact RunsL.value rfl rfl rfl
                    refine oblsL_cons rfl rfl rfl ?_ ?_
                    · apply RunsL.value rfl; (focus (go_simp; try exact rfl)); exact rfl
                    refine oblsL_cons rfl rfl rfl ?_ ?_
                    · apply RunsL.value rfl; (focus (go_simp; try exact rfl)); exact rfl
                    refine oblsL_cons rfl rfl rfl ?_ ?_
                    · apply RunsL.value rfl; (focus (go_simp; try exact rfl)); exact rfl
                    refine oblsL_cons rfl rfl rfl ?_ ?_
                    · apply RunsL.value rfl; (focus (go_simp; try exact rfl)); exact rfl
                    refine oblsL_cons rfl rfl rfl ?_ ?_
                    · exact RunsL.append rfl _ _ _ _ rfl _ _ _ rfl rfl hrB rfl
                    refine oblsL_cons rfl rfl rfl ?_ ?_
                    · exact RunsL.value rfl rfl rfl
                    exact oblsL_nil
                  case hend17n =>
                    go_wp2_with fail
                    go_meet
                    exact HF.out
              case rest =>
                have HM5 := Lib.hid hcut
                clear hcut hcf4
                go_upto_region 18 with fail
                go_cut [8] from 105 to 113 (fun v wx => MI w0 n g4 S1 u7 v (hs.take K ++ hs.drop (K + 1)) (ms.take K ++ ms.drop (K + 1)) wx)
                case first =>
                  obtain ⟨vA, wA, vB, wB, hrA, hrB, hsB, htB, hbB⟩ := removal HM5.out.marks hKm hlenM
                  have HF := Lib.hid (HM5.out.set_marks (htB.mono fun k _ h => .inr h) hsB (fun b hb => .inr (hbB b hb)))
                  obtain ⟨hw96, hw97, hi1, hi2, hi3, hi4, hi5⟩ := cut_facts hKm hm1 hlenM
                  clear hsB htB hbB
                  by_cases hcap : cm = K + 1
                  · have hrv : restv bm offm ms.length cm K = .slice (some ⟨bm, offm, none⟩) 0 0 := if_pos hcap
                    rw [hrv] at hrB
                    obtain ⟨p1, p2, p3, p4, p5, p6, p7⟩ := cut_facts1 hKm hm1 hcap
                    clear hi5 hcap
                    clear hrv
                    refine wp_region_planL (aF := ?aF18p) (aR := ?aR18p) [3, 8] [[], [3], [3, 8]] 2 [(0, 0, 0), (1, 0, 0), (2, 0, 0), (3, 0, 1), (4, 0, 0), (4, 1, 1), (5, 0, 0), (5, 1, 1), (6, 0, 0), (6, 1, 1), (7, 0, 0), (7, 1, 1), (8, 1, 2), (9, 2, 2)] [9]
                      [wc.drew, wA, wB] [.slice (some ⟨bm, offm, none⟩) ms.length cm, .int .i64 K, .slice (some ⟨bm, offm, none⟩) K cm, vA, .slice (some ⟨bm, offm, none⟩) ms.length cm, .int .i64 K, .int .i64 ((K : Int) + 1), .slice (some ⟨bm, offm, none⟩) 0 0, vB, vB]
                      (by kernel_rfl) (by kernel_rfl) ?hF18p ?hR18p rfl rfl rfl ?hob18p ?hend18p
                    case hF18p => simp only [putAll, Act.put]; go_simp; rfl
                    case hR18p => simp only [putAllL, Act.put]; go_simp; rfl
                    case hob18p =>
                      refine oblsL_cons rfl rfl rfl ?_ ?_
                      · exact RunsL.value rfl rfl rfl
                      refine oblsL_cons rfl rfl rfl ?_ ?_
                      · exact RunsL.value rfl rfl rfl
                      refine oblsL_cons rfl rfl rfl ?_ ?_
                      · apply RunsL.value rfl; (focus (go_simp; try exact rfl)); exact rfl
                      refine oblsL_cons rfl rfl rfl ?_ ?_
                      · exact RunsL.append rfl _ _ _ _ rfl _ _ _ rfl rfl hrA rfl
                      refine oblsL_cons rfl rfl rfl ?_ ?_
                      · exact RunsL.value rfl rfl rfl
                      refine oblsL_cons rfl rfl rfl ?_ ?_
                      · exact RunsL.value rfl rfl rfl
                      refine oblsL_cons rfl rfl rfl ?_ ?_
                      · exact RunsL.value rfl rfl rfl
                      refine oblsL_cons rfl rfl rfl ?_ ?_
                      · exact RunsL.value rfl rfl rfl
                      refine oblsL_cons rfl rfl rfl ?_ ?_
                      · apply RunsL.value rfl; (focus (go_simp; try exact rfl)); exact rfl
                      refine oblsL_cons rfl rfl rfl ?_ ?_
                      · apply RunsL.value rfl; (focus (go_simp; try exact rfl)); exact rfl
                      refine oblsL_cons rfl rfl rfl ?_ ?_
                      · apply RunsL.value rfl; (focus (go_simp; try exact rfl)); exact rfl
                      refine oblsL_cons rfl rfl rfl ?_ ?_
                      · apply RunsL.value rfl; (focus (go_simp; try exact rfl)); exact rfl
                      refine oblsL_cons rfl rfl rfl ?_ ?_
                      · exact RunsL.append rfl _ _ _ _ rfl _ _ _ rfl rfl hrB rfl
                      refine oblsL_cons rfl rfl rfl ?_ ?_
                      · exact RunsL.value rfl rfl rfl
                      exact oblsL_nil
                    case hend18p =>
                      go_wp2_with fail
                      go_meet
                      exact HF.out
                  · have hrv : restv bm offm ms.length cm K = .slice (some ⟨bm, offm + (K + 1), none⟩) (ms.length - (K + 1)) (cm - (K + 1)) := if_neg hcap
                    rw [hrv] at hrB
                    obtain ⟨hc0, hcI, hcJ⟩ := cut_facts2 hKm hm1 hcap
                    clear hrv
                    refine wp_region_planL (aF := ?aF18n) (aR := ?aR18n) [3, 8] [[], [3], [3, 8]] 2 [(0, 0, 0), (1, 0, 0), (2, 0, 0), (3, 0, 1), (4, 0, 0), (4, 1, 1), (5, 0, 0), (5, 1, 1), (6, 0, 0), (6, 1, 1), (7, 0, 0), (7, 1, 1), (8, 1, 2), (9, 2, 2)] [9]
                      [wc.drew, wA, wB] [.slice (some ⟨bm, offm, none⟩) ms.length cm, .int .i64 K, .slice (some ⟨bm, offm, none⟩) K cm, vA, .slice (some ⟨bm, offm, none⟩) ms.length cm, .int .i64 K, .int .i64 ((K : Int) + 1), .slice (some ⟨bm, offm + (K + 1), none⟩) (ms.length - (K + 1)) (cm - (K + 1)), vB, vB]
                      (by kernel_rfl) (by kernel_rfl) ?hF18n ?hR18n rfl rfl rfl ?hob18n ?hend18n
                    case hF18n => simp only [putAll, Act.put]; go_simp; rfl
                    case hR18n => simp only [putAllL, Act.put]; go_simp; rfl
                    case hob18n =>
                      refine oblsL_cons rfl rfl rfl ?_ ?_
                      · exact RunsL.value rfl rfl rfl
                      refine oblsL_cons rfl rfl rfl ?_ ?_
                      · exact RunsL.value rfl rfl rfl
                      refine oblsL_cons rfl rfl rfl ?_ ?_
                      · apply RunsL.value rfl; (focus (go_simp; try exact rfl)); exact rfl
                      refine oblsL_cons rfl rfl rfl ?_ ?_
                      · exact RunsL.append rfl _ _ _ _ rfl _ _ _ rfl rfl hrA rfl
                      refine oblsL_cons rfl rfl rfl ?_ ?_
                      · exact RunsL.value rfl rfl rfl
                      refine oblsL_cons rfl rfl rfl ?_ ?_
                      · exact RunsL.value rfl rfl rfl
                      refine oblsL_cons rfl rfl rfl ?_ ?_
                      · exact RunsL.value rfl rfl rfl
                      refine oblsL_cons rfl rfl rfl ?_ ?_
                      · exact RunsL.value rfl rfl rfl
                      refine oblsL_cons rfl rfl rfl ?_ ?_
                      · apply RunsL.value rfl; (focus (go_simp; try exact rfl)); exact rfl
                      refine oblsL_cons rfl rfl rfl ?_ ?_
                      · apply RunsL.value rfl; (focus (go_simp; try exact rfl)); exact rfl
                      refine oblsL_cons rfl rfl rfl ?_ ?_
                      · apply RunsL.value rfl; (focus (go_simp; try exact rfl)); exact rfl
                      refine oblsL_cons rfl rfl rfl ?_ ?_
                      · apply RunsL.value rfl; (focus (go_simp; try exact rfl)); exact rfl
                      refine oblsL_cons rfl rfl rfl ?_ ?_
                      · exact RunsL.append rfl _ _ _ _ rfl _ _ _ rfl rfl hrB rfl
                      refine oblsL_cons rfl rfl rfl ?_ ?_
                      · exact RunsL.value rfl rfl rfl
                      exact oblsL_nil
                    case hend18n =>
                      go_wp2_with fail
                      go_meet
                      exact HF.out
                case rest =>
                  have HM6 := Lib.hid hcut
                  clear hcut
                  go_wp2_with fail
                  go_meet
                  exact ⟨g4, S1, _, _, HM6.out, hR.out.2.2.2.1, by simp; omega, HM4.out.2.trans HG.out⟩
          · rw [decide_eq_false hA]
            have hlenH : hs.length ≤ 1000 := Nat.le_trans hle (Nat.le_trans (Nat.le_of_lt hlt) (Nat.le_trans hl (by decide)))
            have hlenM : ms.length ≤ 1000 := HH.out.len ▸ hlenH
            have hjlt : j < 60 := Nat.lt_of_lt_of_le hlt hl
            by_cases k1 : 1 ≤ p.2
            · by_cases k2 : p.2 ≤ 4000
              · have d1 : decide (1 ≤ p.2) = true := decide_eq_true k1
                have d2 : decide (p.2 ≤ 4000) = true := decide_eq_true k2
                have hk2 : p.2 ≤ 32000 := by omega
                have hlow := get_lowest HM.out.repo.ok k1 hk2
                have herr := get_err HM.out.repo.ok p.2
                have hfail : (get S p.2).2.2 ≠ 0 → (get S p.2).1 = S := fun h => (held_fail HM.out.repo.ok h).1
                have hheld : ∀ S3 A E, get S p.2 = (S3, A, E) → E = 0 → ∃ S'', write S3 A 0 ((j : Int) + 1) = (S'', 0) ∧ Ok n S'' ∧ HeldH S'' (hs ++ [A]) (ms ++ [(j : Int) + 1]) := fun S3 A E e he => by
                  subst he
                  have := held_get HM.out.repo.ok HH.out e (v := (j : Int) + 1) (wf_i64 (by omega) (by omega))
                  rw [HM.out.gn] at this; exact this
                have hget := get_full HM.out.repo HG.out p.2
                obtain ⟨⟨S3, A, E⟩, hgt⟩ : ∃ r, get S p.2 = r := ⟨_, rfl⟩
                rw [hgt] at hlow herr hfail hget
                simp only at hlow herr hfail hget
                have HF := Lib.hid (And.intro hfail (And.intro hheld hgt))
                have HGET := Lib.hid hget
                clear hfail hheld hget hgt
                go_wp2_with fail
                refine HGET.out.mono ?_
                rintro e3 w3 ⟨rfl, g3, r3, s3⟩
                have hM3 := HM.out.step r3 s3
                have hvB3 := HB.out.1.turn s3.turn (fun k hk hh => hh (HB.out.2 k hk))
                have hlw := lowest_calls hvB3 (by rw [blocks_length]; exact HM.out.repo.ok.len) (blocks_bound HM.out.repo.ok) p.2 (by omega) hk2
                rw [← hlow] at hlw
                have HLW := Lib.hid hlw
                have HM3 := Lib.hid (And.intro hM3 (s3.s.trans HG.out))
                clear hlw hvB3 hM3 r3 s3 hlow
                go_wp2_with fail
                refine HLW.out.mono ?_
                rintro e4 w4 ⟨rfl, rfl⟩
                by_cases hE : E = 0
                · subst hE
                  have hApos : 0 < A := herr.1 rfl
                  have dA : decide (0 < A) = true := decide_eq_true hApos
                  obtain ⟨S5, hwr, hok5, hH5⟩ := HF.out.2.1 _ _ _ HF.out.2.2 rfl
                  have hwc := write_calls HM3.out.1.repo HM3.out.2 A 0 ((j : Int) + 1) (wf_i64 (by omega) (by omega))
                  rw [hwr] at hwc
                  have HWC := Lib.hid hwc
                  have HH5 := Lib.hid hH5
                  have hwj : IntKind.i64.wrap ((j : Int) + 1) = (j : Int) + 1 := IntWalk.i64_in _ (by omega)
                  clear hwc hwr hok5 hH5 herr
                  go_wp2_with fail
                  refine HWC.out.mono ?_
                  rintro e5 w5 ⟨rfl, g5, r5, s5⟩
                  have hM5 := (HM3.out.1.step r5 s5).below ((Below.refl w5.heap.size w5).alloc (Nat.le_refl _) (.cells #[.int .i64 A] 3))
                  have HM5 := Lib.hid (And.intro hM5 (s5.s.trans HM3.out.2))
                  clear hM5 r5 s5
                  go_wp2_with (first
                    | (at_builtin; refine wpList_append _ rfl _ _ 24 24 rfl 3 1 8 (.int .i64 0) Try.underlying24 (.inr ⟨_, Try.underlying24⟩) elemInt (.slice ah hs.length ch) _ rfl HM5.out.1.held _ _ _ rfl (Src.one rfl (heap_alloc_new w5 _)) (by intro u hu; simp at hu; subst hu; rfl) (by simp; omega) (by simp; omega) ?_
                       intro v6 w6 hv6 ht6 hw6 hn6
                       have hM6 := (HM5.out.1.set_held (ht6.mono fun k _ h => .inl h) (l := hs ++ [A]) (by rw [icells_append]; exact hv6) (fun b hb => by
                         rcases hw6 with q | q
                         · exact .inl (q ▸ hb)
                         · rw [q] at hb; cases hb; exact .inr (Nat.le_refl _))).below ((Below.refl w6.heap.size w6).alloc (Nat.le_refl _) (.cells #[.int .i64 ((j : Int) + 1)] 3))
                       have HM6 := Lib.hid (And.intro hM6 HM5.out.2)
                       clear hM6 hv6 ht6 hw6 hn6 HM5)
                    | (at_builtin; refine wpList_append _ rfl _ _ 24 24 rfl 3 1 8 (.int .i64 0) Try.underlying24 (.inr ⟨_, Try.underlying24⟩) elemInt (.slice am ms.length cm) _ rfl HM6.out.1.marks _ _ _ rfl (Src.one rfl (heap_alloc_new w6 _)) (by intro u hu; simp at hu; subst hu; rfl) (by simp; omega) (by simp; omega) ?_
                       intro v7 w7 hv7 ht7 hw7 hn7
                       have hM7 := HM6.out.1.set_marks (ht7.mono fun k _ h => .inl h) (l := ms ++ [(j : Int) + 1]) (by rw [icells_append]; exact hv7) (fun b hb => by
                         rcases hw7 with q | q
                         · exact .inl (q ▸ hb)
                         · rw [q] at hb; cases hb; exact .inr (Nat.le_refl _))
                       have HM7 := Lib.hid (And.intro hM7 HM6.out.2)
                       clear hM7 hv7 ht7 hw7 hn7 HM6))
                  go_meet
                  exact ⟨g5, S5, _, _, HM7.out.1, HH5.out, by simp; omega, HM7.out.2⟩
                · have hAn : ¬ 0 < A := fun h => hE (herr.2 h)
                  have dA : decide (0 < A) = false := decide_eq_false hAn
                  have dE : (E == 0) = false := beq_eq_false_iff_ne.2 hE
                  have hS3 : S3 = S := HF.out.1 hE
                  subst hS3
                  clear herr
                  go_wp2_with fail
                  go_meet
                  exact ⟨g3, _, _, _, HM3.out.1, HH.out, Nat.le_succ_of_le hle, HM3.out.2⟩
              · have d1 : decide (1 ≤ p.2) = true := decide_eq_true k1
                have d2 : decide (p.2 ≤ 4000) = false := decide_eq_false k2
                go_wp2_with fail
                go_meet
                exact ⟨g, S, _, _, HM.out, HH.out, Nat.le_succ_of_le hle, HG.out⟩
            · have d1 : decide (1 ≤ p.2) = false := decide_eq_false k1
              go_wp2_with fail
              go_meet
              exact ⟨g, S, _, _, HM.out, HH.out, Nat.le_succ_of_le hle, HG.out⟩
        case rest =>
          obtain ⟨g5, S5, hs5, ms5, hM5, hH5, hl5, hg5⟩ := hcut
          have HM5 := Lib.hid (And.intro hM5 hH5)
          clear hM5 hH5
          go_wp2_with fail
          refine (blocks_calls HM5.out.1.repo hg5).mono ?_
          rintro e6 w6 ⟨vB6, rfl, hvB6, hB6, hoB6⟩
          have HT6 := Lib.hid (show TI w0 n (j + 1) s u7 u8 w6 from ⟨g5, S5, hs5, ms5, HM5.out.1.below hB6, HM5.out.2, hl5, hg5⟩)
          have hap := apart_calls HM5.out.1.repo.ok hvB6
          rw [HM5.out.1.gn] at hap
          have HAP := Lib.hid hap
          clear hap hvB6 hB6 hoB6 hl5
          go_wp2_with fail
          refine HAP.out.mono ?_
          rintro e7 w7 ⟨rfl, rfl⟩
          go_wp2_with fail
          go_roundg (gk - 1)
          case measure => have := HJ.out; omega
          case rel =>
            have hjj := HJ.out
            have e1 : l.length - (gk - 1) = j + 1 := by omega
            rw [e1]
            exact ⟨by omega, by go_num, HT6.out⟩
    · have HMI := Lib.hid (And.intro hMI hHH)
      clear hMI hHH
      obtain rfl : j = l.length := by have := HJ.out; omega
      obtain ⟨ah, ch, rfl, hn1, hn2, hch⟩ := ints_form HMI.out.1.held
      obtain ⟨am, cm, rfl, hm1, hm2, hcm⟩ := ints_form HMI.out.1.marks
      clear hch hcm
      go_wp2
      go_loopg [18] (hs.length) (fun k i wx => k ≤ hs.length ∧ i = .int .i64 ((hs.length - k : Nat) : Int) ∧ ∃ g S, MI w0 n g S (.slice ah hs.length ch) (.slice am ms.length cm) hs ms wx ∧ HeldH S (hs.drop (hs.length - k)) (ms.drop (hs.length - k)) ∧ g.s = s)
      case atStart => exact ⟨Nat.le_refl _, by simp, g, S, HMI.out.1, by simpa using HMI.out.2, hgs⟩
      case round =>
        obtain ⟨hk, rfl, g2, S2, hM2, hH2, hg2⟩ := hrel
        obtain ⟨i, hi⟩ : ∃ i, hs.length - gk = i := ⟨_, rfl⟩
        rw [hi] at hH2 ⊢
        have HJ2 := Lib.hid hi
        have HM2 := Lib.hid (And.intro hM2 (And.intro hH2 hg2))
        clear hi hM2 hH2 hg2
        by_cases hli : i < hs.length
        · have hlt2 : 0 < (hs.drop i).length := by rw [List.length_drop]; omega
          obtain ⟨a1, v1, S1, ha1, hv1, hread, hput, hok1, hH1⟩ := held_put HM2.out.1.repo.ok HM2.out.2.1 hlt2
          have hil : i < ms.length := by have := HMI.out.2.len; omega
          have ha2 : hs[i]? = some a1 := by rw [List.getElem?_drop] at ha1; exact ha1
          have hv2 : ms[i]? = some v1 := by rw [List.getElem?_drop] at hv1; exact hv1
          obtain ⟨b1, o1, rfl⟩ := HM2.out.1.held.addr (by omega)
          obtain ⟨b2, o2, rfl⟩ := HM2.out.1.marks.addr (by omega)
          have hce := HM2.out.1.held.cells i (.int .i64 a1) (by simp [icells, ha2])
          have hR := Lib.hid (And.intro hread (And.intro hput (And.intro hok1 (And.intro hH1 (And.intro ha2 hv2)))))
          clear hread hput hok1 hH1 ha1 hv1 ha2 hv2 hlt2
          go_wp2_with fail
          refine (read_calls HM2.out.1.repo HM2.out.2.2 a1 0).mono ?_
          rintro e3 w3 ⟨rfl, hB3⟩
          rw [hR.out.1]
          have hM3 := HM2.out.1.below hB3
          have hce3 : w3.cell? ⟨b1, o1 + i, none⟩ = some (.int .i64 a1) := (hB3.cell (p := ⟨b1, o1 + i, none⟩) (cell_lt hce)).trans hce
          have HM3 := Lib.hid hM3
          clear hM3 hB3 hce
          go_wp2_with fail
          refine (put_calls HM3.out.repo HM2.out.2.2 a1).mono ?_
          rintro e4 w4 ⟨rfl, g4, r4, s4⟩
          rw [hR.out.2.1] at r4 ⊢
          have hM4 := HM3.out.step r4 s4
          have hcf4 := hM4.marks.cells i (.int .i64 v1) (by simp [icells, hR.out.2.2.2.2.2])
          have HM4 := Lib.hid (And.intro hM4 (s4.s.trans HM2.out.2.2))
          clear hM4 r4 s4 hce3
          go_wp2_with fail
          go_roundg (gk - 1)
          case measure => have := HJ2.out; omega
          case rel =>
            have hjj := HJ2.out
            have e1 : hs.length - (gk - 1) = i + 1 := by omega
            rw [e1]
            refine ⟨by omega, by go_num, g4, S1, HM4.out.1, ?_, HM4.out.2⟩
            have := hR.out.2.2.2.1
            simpa using this
        · obtain rfl : i = hs.length := by have := HJ2.out; omega
          have hS2 : S2 = [hole n] := by
            have h1 := HM2.out.2.1
            rw [List.drop_length, HMI.out.2.len, List.drop_length] at h1
            have := held_none HM2.out.1.repo.ok h1
            rw [HM2.out.1.gn] at this; exact this
          subst hS2
          go_wp2_with fail
          refine (blocks_calls HM2.out.1.repo HM2.out.2.2).mono ?_
          rintro e5 w5 ⟨vB, rfl, hvB, hB5, hoB⟩
          have hM5 := HM2.out.1.below hB5
          obtain ⟨aB, cB, rfl, hB1, hB3, hcB⟩ := blocks_form hvB
          obtain ⟨b3, o3, rfl, k0, k1, k2⟩ := hcB 0 (0, n, true) rfl
          simp only [Nat.zero_mul, Nat.add_zero] at k0 k1 k2
          have hlen1 : (blocks 0 [hole n]).length = 1 := rfl
          rw [hlen1]
          have HO := Lib.hid hM5.old
          clear hM5 hvB hB5 hoB hcB hlen1
          go_wp2_with fail
          refine (awake18_calls w5).mono ?_
          rintro e6 w6 ⟨rfl, o6⟩
          go_wp2
          go_ret
          exact ⟨rfl, HO.out.then_ o6⟩

set_option maxRecDepth 100000 in
theorem top_calls (w0 : World) (n : Int) (l : List (Int × Int)) (a : Option Addr) (cap : Nat) (hin : PIn w0 a l) (hwf : ∀ p ∈ l, (Lit.int .i64 p.1).wf = true ∧ (Lit.int .i64 p.2).wf = true) :
    Calls Try.prog 11 #[.int .i64 n, .slice a l.length cap] w0 fun e w' => e = .returned (.bool true) ∧ Old w0 w' := by
  by_cases h1 : n ≤ 4000
  · by_cases h2 : l.length ≤ 60
    · by_cases h3 : 4 ≤ n ∧ n ≤ 32000 ∧ n % 2 = 0
      · obtain ⟨m, rfl⟩ := Int.eq_ofNat_of_zero_le (by omega : 0 ≤ n)
        exact top_good w0 m (by omega) (by omega) (by omega) l a cap h2 hin hwf
      · have q1 : decide ((4000 : Int) < n) = false := by simp; omega
        have q2 : decide ((60 : Int) < (l.length : Int)) = false := by simp; omega
        have q3 : decide (60 < l.length) = false := by simp; omega
        have hb := Lib.hid (new_bad n h3 w0)
        clear hin hwf h3 h1 h2
        go_enter Try.func11, Try.ntmps11
        go_wp2_with fail
        refine hb.out.mono ?_
        rintro e1 w1 ⟨rfl, rfl⟩
        go_wp2_with fail
        refine (awake18_calls w1).mono ?_
        rintro e6 w6 ⟨rfl, o6⟩
        go_wp2
        go_ret
        exact ⟨rfl, o6⟩
    · have q1 : decide ((4000 : Int) < n) = false := by simp; omega
      have q2 : decide ((60 : Int) < (l.length : Int)) = true := by simp; omega
      have q3 : decide (60 < l.length) = true := by simp; omega
      clear hin hwf h1 h2
      go_enter Try.func11, Try.ntmps11
      go_wp2
      go_ret
      exact ⟨rfl, Turn.refl _ _⟩
  · have q1 : decide ((4000 : Int) < n) = true := by simp; omega
    clear hin hwf h1
    go_enter Try.func11, Try.ntmps11
    go_wp2
    go_ret
    exact ⟨rfl, Turn.refl _ _⟩
end Go.Sto
