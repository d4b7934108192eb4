/-
  The reference's Write, walked. (Printed by gen/genrwrite.py.)
-/
import Derived.Deep.LoopGhost
import Derived.Deep.CutRange
import Derived.Test.YtjdafmpkobelcaaDoorQRefOut2
import Derived.Test.YtjdafmpkobelcaaDoorQConWrite2
set_option linter.unusedVariables false

namespace Go.Con
open Go.Own Go.RowKit Go.Proofs

section
variable {r : RG} {S : CS} {w w' : World}

/-- A byte is put behind a task's own line: what the region's operations make of memory. -/
theorem RRep.put_byte (h : RRep r S w) (k : Nat) (hk : k < 100) (y : Nat) (b : UInt8) (hy : b.toNat = y) (hl : (S.out k).length < 80) :
    ∃ a0 n0 k0 pa pn pc w3, r.ov k = .slice a0 n0 k0 ∧ n0 = (S.out k).length ∧
      (Builtin.append_ #[26, 26] 26 #[.slice a0 n0 k0, .slice (some ⟨w.heap.size, 0, none⟩) 1 1]).run Tryd.prog (w.alloc (.cells #[.int .u8 (y : Int)] 5)).drew = .ok (.slice pa pn pc) w3 ∧
      w3.heap[r.g.c]? = some (.cells (rcells r S) 48 (0, 0)) ∧
      GI r { S with out := upd S.out k (S.out k ++ [b]) } w (w3.setCell ⟨r.g.c, 104 + k, none⟩ (.slice pa pn pc)) := by
  obtain ⟨a0, n0, k0, hv0, hl0, -⟩ := (h.own k).1.form
  rw [bcells_length, Nat.mul_one] at hl0
  have r1 := (h.alloc (.cells #[.int .u8 (y : Int)] 5)).drew
  have hsl := (r1.own k).1
  rw [hv0] at hsl
  obtain ⟨v', w3, happ, hv', hT, hown, -⟩ := run_append (P := Tryd.prog) (w.alloc (.cells #[.int .u8 (y : Int)] 5)).drew 26 26 26 5 1 1 (.int .u8 0) Tryd.underlying26 (.inr ⟨_, Tryd.underlying26⟩) elemU8
    (.slice a0 n0 k0) _ hsl (.slice (some ⟨w.heap.size, 0, none⟩) 1 1) 1 [.int .u8 (y : Int)] (Src.one (g := w.heap.size) (c := 1) rfl (heap_alloc_new w _)) (by intro u hu; simp at hu; subst hu; rfl) (by simp [bcells_length]; omega) (by simp [bcells_length]; omega)
  obtain ⟨pa, pn, pc, rfl, -⟩ := hv'.form
  have tk := fun q hq => (r1.own k).2 q (by rw [hv0]; exact hq)
  have b1 := r1.block_after hT (fun hb => by have h1 := tk _ hb; rw [r1.tc] at h1; cases h1)
  have e1 : bcells (S.out k) ++ [.int .u8 (y : Int)] = bcells (S.out k ++ [b]) := by rw [bcells_append, show bcells [b] = [.int .u8 (y : Int)] from by simp [bcells, hy]]
  rw [e1] at hv'
  obtain ⟨r', p1, p2, p3, p4⟩ := r1.append_own k hk (by rw [hv0]; exact hT) hv' (by rw [hv0]; exact hown)
  exact ⟨a0, n0, k0, pa, pn, pc, w3, hv0, hl0.symm, happ, b1, r', p1, (((Step.refl r.g w).alloc (.cells #[.int .u8 (y : Int)] 5)).drew).trans p2, p3, p4⟩

def RWI (r : RG) (S : CS) (k : Nat) (l : Bytes) (w : World) (i : Nat) (wr : World) : Prop := GI r.on (S.write k (l.take i)) w wr

set_option maxRecDepth 10000 in
set_option maxHeartbeats 4000000 in
theorem rwrite_calls (k : Nat) (a : Option Addr) (cap : Nat) (l : Bytes) {c : Nat} (hc : r.g.c = c) (h : RRep r S w) (hok : S.Ok) {N : Nat} (hsm : S.Small N) (hN : N + 250 * l.length ≤ 1099511000000) (hl : l.length ≤ 1000000) (hin : BIn r.g.ρ w a l) (h1 : 1 ≤ k) (h2 : k ≤ 99) :
    Calls Tryd.prog 29 #[.pointer (some ⟨c, 0, none⟩), .int .i64 k, .slice a l.length cap] w (GPost r.on (S.write k l) w (.int .i64 0)) := by
  subst hc
  have hg1 : ¬ (k : Int) < 1 := by omega
  have hg2 : ¬ (99 : Int) < (k : Int) := by omega
  have hk0 : (0 : Int) ≤ (k : Int) := by omega
  have hk1 : (k : Int) < 100 := by omega
  have HC := Lib.hid (rstart_calls rfl h)
  clear h
  go_enter Tryd.func29, Tryd.ntmps29
  go_wp2_with fail
  refine HC.out.mono ?_
  rintro e1 w1 ⟨rfl, R1, s0⟩
  have HST := Lib.hid (GI.start R1 s0)
  clear R1 s0 HC
  go_wp2_with fail
  go_loopg [7] (l.length) (fun gk iv wr => ∃ i : Nat, gk + i = l.length ∧ iv = .int .i64 i ∧ GI r.on (S.write k (l.take i)) w wr)
  case atStart => exact ⟨0, rfl, rfl, HST.out⟩
  case round =>
    obtain ⟨i, hi, rfl, hGI⟩ := hrel
    by_cases hlt : i < l.length
    · obtain ⟨r1, R1, s1, b1, t1⟩ := hGI
      have s1' : Step r.g r1.g w wr := s1
      have hin1 := hin.step s1'
      obtain ⟨b, off, rfl, hb0, hb1, hcell⟩ := hin1.resolve_left (fun e => by rw [e] at hlt; simp at hlt)
      have hck := hcell i hlt
      have hsucc := CS.write_succ S k l i hlt
      have ok1 := CS.write_ok hok k h1 h2 (l.take i)
      have sc1 := (CS.write_small (m := 1099511000000) hsm hok k h1 h2 (l.take i) (by rw [List.length_take]; omega)).screen
      have HS := Lib.hid hsucc
      clear hsucc hin1 hcell
      generalize l[i] = x at *
      generalize S.write k (l.take i) = S1 at *
      have hn256 := x.toNat_lt
      generalize hn : x.toNat = n at *
      have HN := Lib.hid hn
      have hi0 : (0 : Int) ≤ (i : Int) := by omega
      have hi1 : (i : Int) < (l.length : Int) := by omega
      have hcc : r1.g.c = r.g.c := s1.c
      have H1 := Lib.hid (And.intro R1 (And.intro s1 (And.intro b1 (And.intro t1 (And.intro ok1 (And.intro sc1 hcc))))))
      clear hn R1 s1 s1' b1 t1 ok1 sc1 hcc
      by_cases q1 : n = 10
      · subst q1
        have HG := Lib.hid (goes_calls k H1.out.2.2.2.2.2.2 H1.out.1 H1.out.2.2.1 H1.out.2.2.2.2.1 H1.out.2.2.2.2.2.1 h1 h2)
        go_wp2_with fail
        refine HG.out.mono ?_
        rintro e2 w2 ⟨rfl, r2, R2, s2, b2, t2⟩
        have HF := Lib.hid (show GI r.on (S1.goes k) w w2 from ⟨r2, R2, H1.out.2.1.trans s2, b2.trans H1.out.2.2.1, t2.trans H1.out.2.2.2.1⟩)
        clear R2 s2 b2 t2
        go_wp2_with fail
        go_roundg (gk - 1)
        case measure => omega
        case rel =>
          have e3 : S.write k (l.take (i + 1)) = S1.goes k := by rw [HS.out]; unfold CS.put; rw [if_pos HN.out]
          exact ⟨i + 1, by omega, by go_num, by rw [e3]; exact HF.out⟩
      have q1b : ((n : Int) == 10) = false := by simp; omega
      by_cases q3 : n < 32
      · have q4 : (n : Int) < 32 := by omega
        go_upto_region 12 with fail
        go_cut [45] from 38 to 45 (fun v wx => ∃ bb : Bool, v = .bool bb ∧ bb = decide ((S1.out k).length = 80) ∧ wx = wr)
        case first =>
          obtain ⟨a0, n0, k0, hv0, hl0, -⟩ := (H1.out.1.own k).1.form
          rw [bcells_length, Nat.mul_one] at hl0
          have co := rblock_cells H1.out.1.blk (104 + k) (by omega)
          rw [rcell_own k (by omega), hv0, H1.out.2.2.2.2.2.2] at co
          have HE := Lib.hid (show ((n0 : Int) == 80) = decide ((S1.out k).length = 80) from by rw [hl0, Bool.eq_iff_iff]; simp; omega)
          clear hv0 hl0
          go_wp2_with fail
          go_meet
          case rel => exact ⟨_, rfl, HE.out, rfl⟩
        case rest =>
        obtain ⟨bb, rfl, hbb, hw⟩ := hcut
        rw [hw]
        have HBB := Lib.hid hbb
        clear hbb hw
        go_upto_if 45 with fail
        go_cut [] from 45 to 48 (fun wx => GI r1 (S1.room k) wr wx)
        case first =>
          cases bb
          · have q2 := of_decide_eq_false HBB.out.symm
            have FIN := Lib.hid (show GI r1 (S1.room k) wr wr from ⟨r1, by unfold CS.room; rw [if_neg q2]; exact H1.out.1, Step.refl _ _, rfl, rfl⟩)
            clear q2
            go_wp2_with fail
            go_meet
            case rel => exact FIN.out
          · have q2 := of_decide_eq_true HBB.out.symm
            have HG := Lib.hid (goes_calls k H1.out.2.2.2.2.2.2 H1.out.1 H1.out.2.2.1 H1.out.2.2.2.2.1 H1.out.2.2.2.2.2.1 h1 h2)
            have q7 : S1.room k = S1.goes k := by unfold CS.room; rw [if_pos q2]
            have HQ := Lib.hid q7
            clear q2 q7
            go_wp2_with fail
            refine HG.out.mono ?_
            rintro e2 w2 ⟨rfl, hGI⟩
            have FIN := Lib.hid hGI
            clear hGI
            go_wp2_with fail
            go_meet
            case rel => rw [HQ.out]; exact FIN.out
        case rest =>
          obtain ⟨r3, R3, s3, b3, t3⟩ := hcut
          have RL := CS.room_out H1.out.2.2.2.2.1 k
          have hc3 : r3.g.c = r.g.c := s3.c.trans H1.out.2.2.2.2.2.2
          obtain ⟨A0, N0, K0, pa, pn, pc, wa, hV2, hN0, happ, hb3, hGI⟩ := R3.put_byte k (by omega) 63 (seen x) (seen_other HN.out (by omega)) RL
          have rl := (R3.alloc (.cells #[.int .u8 (63 : Int)] 5)).drew
          have x0 := rblock_cells R3.drew.blk (104 + k) (by omega)
          have x1 := rblock_cells rl.blk (104 + k) (by omega)
          have x2 := rblock_cells hb3 (104 + k) (by omega)
          have x3 : wa.frozen? ⟨r3.g.c, 104 + k, none⟩ = false := frozen_at hb3
          rw [rcell_own k (by omega), hV2] at x0 x1 x2
          rw [hc3] at x0 x1 x2 x3 hGI
          have HF := Lib.hid (show GI r.on (S.write k (l.take (i + 1))) w (wa.setCell ⟨r.g.c, 104 + k, none⟩ (.slice pa pn pc)) from by
            obtain ⟨r4, R4, s4, b4, t4⟩ := hGI
            refine ⟨r4, ?_, H1.out.2.1.trans (s3.trans s4), (b4.trans b3).trans H1.out.2.2.1, (t4.trans t3).trans H1.out.2.2.2.1⟩
            rw [HS.out]; unfold CS.put; rw [if_neg (by rw [HN.out]; omega)]; exact R4)
          have HV := Lib.hid (And.intro hV2 hN0)
          clear R3 s3 b3 t3 RL hc3 hV2 hN0 rl hb3 hGI
          go_upto_region 14 with fail
          refine wp_region_plan (aF := ?aF_1) [9, 10, 14] [(0, 0), (0, 1), (0, 2), (1, 0), (1, 1), (1, 2), (2, 0), (2, 1), (2, 2), (3, 0), (3, 1), (4, 0), (4, 1), (4, 2), (5, 0), (5, 1), (6, 0), (6, 1), (7, 0), (7, 1), (8, 0), (9, 0), (10, 1), (11, 0), (11, 1), (11, 2), (12, 0), (12, 1), (12, 2), (13, 2), (14, 2)] [wc.drew, (wc.alloc (.cells #[.int .u8 (63 : Int)] 5)).drew, wa, wa.setCell ⟨r.g.c, 104 + k, none⟩ (.slice pa pn pc)] [?v0_1, ?v1_1, ?v2_1, ?v3_1, ?v4_1, ?v5_1, ?v6_1, ?v7_1, ?v8_1, ?v9_1, .slice pa pn pc, ?v11_1, ?v12_1, ?v13_1, undef] (by kernel_rfl) (by kernel_rfl) ?hF_1 rfl rfl rfl ?hob_1 ?hend_1
          case hF_1 => simp only [putAll, Act.put]; go_simp; rfl
          case hob_1 =>
            repeat' (first
              | exact obls_nil
              | (refine obls_cons rfl rfl rfl ?_ ?_)
              | (apply Runs.skip rfl rfl; (focus (go_simp; try exact rfl)); exact rfl)
              | (apply Runs.value rfl; (focus (go_simp; try exact rfl)); exact rfl))
            exact Runs.append rfl (.tmp 56) (.tmp 58) 26 26 rfl _ _ _ rfl rfl happ rfl
          clear x0 x1 x2 x3 happ
          go_wp2_with fail
          go_roundg (gk - 1)
          case measure => omega
          case rel => exact ⟨i + 1, by omega, by go_num, HF.out⟩
      by_cases q4 : 126 < n
      · have q5 : (126 : Int) < (n : Int) := by omega
        have q6 : ¬ (n : Int) < 32 := by omega
        go_upto_region 12 with fail
        go_cut [45] from 38 to 45 (fun v wx => ∃ bb : Bool, v = .bool bb ∧ bb = decide ((S1.out k).length = 80) ∧ wx = wr)
        case first =>
          obtain ⟨a0, n0, k0, hv0, hl0, -⟩ := (H1.out.1.own k).1.form
          rw [bcells_length, Nat.mul_one] at hl0
          have co := rblock_cells H1.out.1.blk (104 + k) (by omega)
          rw [rcell_own k (by omega), hv0, H1.out.2.2.2.2.2.2] at co
          have HE := Lib.hid (show ((n0 : Int) == 80) = decide ((S1.out k).length = 80) from by rw [hl0, Bool.eq_iff_iff]; simp; omega)
          clear hv0 hl0
          go_wp2_with fail
          go_meet
          case rel => exact ⟨_, rfl, HE.out, rfl⟩
        case rest =>
        obtain ⟨bb, rfl, hbb, hw⟩ := hcut
        rw [hw]
        have HBB := Lib.hid hbb
        clear hbb hw
        go_upto_if 45 with fail
        go_cut [] from 45 to 48 (fun wx => GI r1 (S1.room k) wr wx)
        case first =>
          cases bb
          · have q2 := of_decide_eq_false HBB.out.symm
            have FIN := Lib.hid (show GI r1 (S1.room k) wr wr from ⟨r1, by unfold CS.room; rw [if_neg q2]; exact H1.out.1, Step.refl _ _, rfl, rfl⟩)
            clear q2
            go_wp2_with fail
            go_meet
            case rel => exact FIN.out
          · have q2 := of_decide_eq_true HBB.out.symm
            have HG := Lib.hid (goes_calls k H1.out.2.2.2.2.2.2 H1.out.1 H1.out.2.2.1 H1.out.2.2.2.2.1 H1.out.2.2.2.2.2.1 h1 h2)
            have q7 : S1.room k = S1.goes k := by unfold CS.room; rw [if_pos q2]
            have HQ := Lib.hid q7
            clear q2 q7
            go_wp2_with fail
            refine HG.out.mono ?_
            rintro e2 w2 ⟨rfl, hGI⟩
            have FIN := Lib.hid hGI
            clear hGI
            go_wp2_with fail
            go_meet
            case rel => rw [HQ.out]; exact FIN.out
        case rest =>
          obtain ⟨r3, R3, s3, b3, t3⟩ := hcut
          have RL := CS.room_out H1.out.2.2.2.2.1 k
          have hc3 : r3.g.c = r.g.c := s3.c.trans H1.out.2.2.2.2.2.2
          obtain ⟨A0, N0, K0, pa, pn, pc, wa, hV2, hN0, happ, hb3, hGI⟩ := R3.put_byte k (by omega) 63 (seen x) (seen_other HN.out (by omega)) RL
          have rl := (R3.alloc (.cells #[.int .u8 (63 : Int)] 5)).drew
          have x0 := rblock_cells R3.drew.blk (104 + k) (by omega)
          have x1 := rblock_cells rl.blk (104 + k) (by omega)
          have x2 := rblock_cells hb3 (104 + k) (by omega)
          have x3 : wa.frozen? ⟨r3.g.c, 104 + k, none⟩ = false := frozen_at hb3
          rw [rcell_own k (by omega), hV2] at x0 x1 x2
          rw [hc3] at x0 x1 x2 x3 hGI
          have HF := Lib.hid (show GI r.on (S.write k (l.take (i + 1))) w (wa.setCell ⟨r.g.c, 104 + k, none⟩ (.slice pa pn pc)) from by
            obtain ⟨r4, R4, s4, b4, t4⟩ := hGI
            refine ⟨r4, ?_, H1.out.2.1.trans (s3.trans s4), (b4.trans b3).trans H1.out.2.2.1, (t4.trans t3).trans H1.out.2.2.2.1⟩
            rw [HS.out]; unfold CS.put; rw [if_neg (by rw [HN.out]; omega)]; exact R4)
          have HV := Lib.hid (And.intro hV2 hN0)
          clear R3 s3 b3 t3 RL hc3 hV2 hN0 rl hb3 hGI
          go_upto_region 14 with fail
          refine wp_region_plan (aF := ?aF_2) [9, 10, 14] [(0, 0), (0, 1), (0, 2), (1, 0), (1, 1), (1, 2), (2, 0), (2, 1), (2, 2), (3, 0), (3, 1), (4, 0), (4, 1), (4, 2), (5, 0), (5, 1), (6, 0), (6, 1), (7, 0), (7, 1), (8, 0), (9, 0), (10, 1), (11, 0), (11, 1), (11, 2), (12, 0), (12, 1), (12, 2), (13, 2), (14, 2)] [wc.drew, (wc.alloc (.cells #[.int .u8 (63 : Int)] 5)).drew, wa, wa.setCell ⟨r.g.c, 104 + k, none⟩ (.slice pa pn pc)] [?v0_2, ?v1_2, ?v2_2, ?v3_2, ?v4_2, ?v5_2, ?v6_2, ?v7_2, ?v8_2, ?v9_2, .slice pa pn pc, ?v11_2, ?v12_2, ?v13_2, undef] (by kernel_rfl) (by kernel_rfl) ?hF_2 rfl rfl rfl ?hob_2 ?hend_2
          case hF_2 => simp only [putAll, Act.put]; go_simp; rfl
          case hob_2 =>
            repeat' (first
              | exact obls_nil
              | (refine obls_cons rfl rfl rfl ?_ ?_)
              | (apply Runs.skip rfl rfl; (focus (go_simp; try exact rfl)); exact rfl)
              | (apply Runs.value rfl; (focus (go_simp; try exact rfl)); exact rfl))
            exact Runs.append rfl (.tmp 56) (.tmp 58) 26 26 rfl _ _ _ rfl rfl happ rfl
          clear x0 x1 x2 x3 happ
          go_wp2_with fail
          go_roundg (gk - 1)
          case measure => omega
          case rel => exact ⟨i + 1, by omega, by go_num, HF.out⟩
      have q5 : ¬ (126 : Int) < (n : Int) := by omega
      have q6 : ¬ (n : Int) < 32 := by omega
      go_upto_region 12 with fail
      go_cut [45] from 38 to 45 (fun v wx => ∃ bb : Bool, v = .bool bb ∧ bb = decide ((S1.out k).length = 80) ∧ wx = wr)
      case first =>
        obtain ⟨a0, n0, k0, hv0, hl0, -⟩ := (H1.out.1.own k).1.form
        rw [bcells_length, Nat.mul_one] at hl0
        have co := rblock_cells H1.out.1.blk (104 + k) (by omega)
        rw [rcell_own k (by omega), hv0, H1.out.2.2.2.2.2.2] at co
        have HE := Lib.hid (show ((n0 : Int) == 80) = decide ((S1.out k).length = 80) from by rw [hl0, Bool.eq_iff_iff]; simp; omega)
        clear hv0 hl0
        go_wp2_with fail
        go_meet
        case rel => exact ⟨_, rfl, HE.out, rfl⟩
      case rest =>
      obtain ⟨bb, rfl, hbb, hw⟩ := hcut
      rw [hw]
      have HBB := Lib.hid hbb
      clear hbb hw
      go_upto_if 45 with fail
      go_cut [] from 45 to 48 (fun wx => GI r1 (S1.room k) wr wx)
      case first =>
        cases bb
        · have q2 := of_decide_eq_false HBB.out.symm
          have FIN := Lib.hid (show GI r1 (S1.room k) wr wr from ⟨r1, by unfold CS.room; rw [if_neg q2]; exact H1.out.1, Step.refl _ _, rfl, rfl⟩)
          clear q2
          go_wp2_with fail
          go_meet
          case rel => exact FIN.out
        · have q2 := of_decide_eq_true HBB.out.symm
          have HG := Lib.hid (goes_calls k H1.out.2.2.2.2.2.2 H1.out.1 H1.out.2.2.1 H1.out.2.2.2.2.1 H1.out.2.2.2.2.2.1 h1 h2)
          have q7 : S1.room k = S1.goes k := by unfold CS.room; rw [if_pos q2]
          have HQ := Lib.hid q7
          clear q2 q7
          go_wp2_with fail
          refine HG.out.mono ?_
          rintro e2 w2 ⟨rfl, hGI⟩
          have FIN := Lib.hid hGI
          clear hGI
          go_wp2_with fail
          go_meet
          case rel => rw [HQ.out]; exact FIN.out
      case rest =>
        obtain ⟨r3, R3, s3, b3, t3⟩ := hcut
        have RL := CS.room_out H1.out.2.2.2.2.1 k
        have hc3 : r3.g.c = r.g.c := s3.c.trans H1.out.2.2.2.2.2.2
        obtain ⟨A0, N0, K0, pa, pn, pc, wa, hV2, hN0, happ, hb3, hGI⟩ := R3.put_byte k (by omega) n (seen x) (seen_same HN.out (by omega) (by omega)) RL
        have rl := (R3.alloc (.cells #[.int .u8 (n : Int)] 5)).drew
        have x0 := rblock_cells R3.drew.blk (104 + k) (by omega)
        have x1 := rblock_cells rl.blk (104 + k) (by omega)
        have x2 := rblock_cells hb3 (104 + k) (by omega)
        have x3 : wa.frozen? ⟨r3.g.c, 104 + k, none⟩ = false := frozen_at hb3
        rw [rcell_own k (by omega), hV2] at x0 x1 x2
        rw [hc3] at x0 x1 x2 x3 hGI
        have HF := Lib.hid (show GI r.on (S.write k (l.take (i + 1))) w (wa.setCell ⟨r.g.c, 104 + k, none⟩ (.slice pa pn pc)) from by
          obtain ⟨r4, R4, s4, b4, t4⟩ := hGI
          refine ⟨r4, ?_, H1.out.2.1.trans (s3.trans s4), (b4.trans b3).trans H1.out.2.2.1, (t4.trans t3).trans H1.out.2.2.2.1⟩
          rw [HS.out]; unfold CS.put; rw [if_neg (by rw [HN.out]; omega)]; exact R4)
        have HV := Lib.hid (And.intro hV2 hN0)
        clear R3 s3 b3 t3 RL hc3 hV2 hN0 rl hb3 hGI
        go_upto_region 14 with fail
        refine wp_region_plan (aF := ?aF_3) [9, 10, 14] [(0, 0), (0, 1), (0, 2), (1, 0), (1, 1), (1, 2), (2, 0), (2, 1), (2, 2), (3, 0), (3, 1), (4, 0), (4, 1), (4, 2), (5, 0), (5, 1), (6, 0), (6, 1), (7, 0), (7, 1), (8, 0), (9, 0), (10, 1), (11, 0), (11, 1), (11, 2), (12, 0), (12, 1), (12, 2), (13, 2), (14, 2)] [wc.drew, (wc.alloc (.cells #[.int .u8 (n : Int)] 5)).drew, wa, wa.setCell ⟨r.g.c, 104 + k, none⟩ (.slice pa pn pc)] [?v0_3, ?v1_3, ?v2_3, ?v3_3, ?v4_3, ?v5_3, ?v6_3, ?v7_3, ?v8_3, ?v9_3, .slice pa pn pc, ?v11_3, ?v12_3, ?v13_3, undef] (by kernel_rfl) (by kernel_rfl) ?hF_3 rfl rfl rfl ?hob_3 ?hend_3
        case hF_3 => simp only [putAll, Act.put]; go_simp; rfl
        case hob_3 =>
          repeat' (first
            | exact obls_nil
            | (refine obls_cons rfl rfl rfl ?_ ?_)
            | (apply Runs.skip rfl rfl; (focus (go_simp; try exact rfl)); exact rfl)
            | (apply Runs.value rfl; (focus (go_simp; try exact rfl)); exact rfl))
          exact Runs.append rfl (.tmp 56) (.tmp 58) 26 26 rfl _ _ _ rfl rfl happ rfl
        clear x0 x1 x2 x3 happ
        go_wp2_with fail
        go_roundg (gk - 1)
        case measure => omega
        case rel => exact ⟨i + 1, by omega, by go_num, HF.out⟩
    · obtain rfl : i = l.length := by omega
      have HF := Lib.hid hGI
      clear hGI
      go_wp2_with fail
      go_ret
      have e := HF.out
      rw [List.take_length] at e
      exact ⟨rfl, e⟩
end
end Go.Con
