/-
  The console's Write, walked: the loop. (Printed by gen/genwrite.py.)
-/
import Derived.Deep.LoopGhost
import Derived.Deep.CutRange
import Derived.Test.YtjdafmpkobelcaaDoorQConWrite
set_option linter.unusedVariables false

namespace Go.Con
open Go.Own Go.RowKit Go.Proofs

section
variable {g : Ghost} {S : CS} {w w' : World}

/-- A line had room, or went out. -/
def RoomI (g1 : Ghost) (R : CS) (wr wx : World) : Prop := ∃ g3, Rep g3 R wx ∧ Step g1 g3 wr wx

theorem seen_same {x : UInt8} {n : Nat} (h : x.toNat = n) (h1 : 32 ≤ n) (h2 : n ≤ 126) : (seen x).toNat = n := by
  unfold seen; rw [if_neg (by omega)]; exact h
theorem seen_other {x : UInt8} {n : Nat} (h : x.toNat = n) (h1 : n < 32 ∨ 126 < n) : (seen x).toNat = 63 := by
  unfold seen; rw [if_pos (by omega)]; rfl

set_option maxRecDepth 10000 in
set_option maxHeartbeats 4000000 in
theorem write_calls (k : Nat) (a : Option Addr) (cap : Nat) (l : Bytes) {c : Nat} (hc : g.c = c) (h : Rep g S w) (hok : S.Ok) {N : Nat} (hsm : S.Small N) (hN : N + 250 * l.length ≤ 1099511000000) (hl : l.length ≤ 1000000) (hin : BIn g.ρ w a l) (h1 : 1 ≤ k) (h2 : k ≤ 99) :
    Calls Tryd.prog 9 #[.pointer (some ⟨c, 0, none⟩), .int .i64 k, .slice a l.length cap] w (OutPost g (S.write k l) w (.int .i64 0)) := by
  subst hc
  have hg1 : ¬ (k : Int) < 1 := by omega
  have hg2 : ¬ (99 : Int) < (k : Int) := by omega
  have hwf : (Lit.int .i64 (k : Int)).wf = true := wf_i64 (by omega) (by omega)
  go_enter Tryd.func9, Tryd.ntmps9
  go_wp2_with fail
  refine (ready_calls rfl h).mono ?_
  rintro e1 w1 ⟨rfl, rfl⟩
  go_wp2_with fail
  go_loopg [21] (l.length) (fun gk iv wr => ∃ i : Nat, gk + i = l.length ∧ iv = .int .i64 i ∧ ∃ g', Rep g' (S.write k (l.take i)) wr ∧ Step g g' w1 wr)
  case atStart => exact ⟨0, rfl, rfl, g, h, Step.refl _ _⟩
  case round =>
    obtain ⟨i, hi, rfl, g1, r1, s1⟩ := hrel
    by_cases hlt : i < l.length
    · have hin1 := hin.step s1
      obtain ⟨b, off, rfl, hb0, hb1, hcell⟩ := hin1.resolve_left (fun e => by rw [e] at hlt; simp at hlt)
      have hck := hcell i hlt
      have hsucc := CS.write_succ S k l i hlt
      have ok1 := CS.write_ok hok k h1 h2 (l.take i)
      have sc1 := (CS.write_small (m := 1099511000000) hsm hok k h1 h2 (l.take i) (by rw [List.length_take]; omega)).screen
      have HS := Lib.hid hsucc
      clear hsucc hin1 hcell
      generalize l[i] = x at *
      generalize S.write k (l.take i) = S1 at *
      have hn256 := x.toNat_lt
      generalize hn : x.toNat = n at *
      have HN := Lib.hid hn
      clear hn
      have hi0 : (0 : Int) ≤ (i : Int) := by omega
      have hi1 : (i : Int) < (l.length : Int) := by omega
      obtain ⟨-, -, -, -, -, -, -, c7, -, -, fz⟩ := block_cells r1.blk
      rw [s1.c] at c7 fz
      obtain ⟨a0, n0, k0, hv0, hl0, -⟩ := (r1.outv k).1.form
      rw [bcells_length, Nat.mul_one] at hl0
      have hk0 := r1.out.lookup (P := Tryd.prog) (t := 56) Tryd.underlying3 Tryd.underlying56 (z := nilSlice) (by kernel_rfl) hwf
      rw [hv0] at hk0
      have HV := Lib.hid hv0
      clear hv0
      by_cases q1 : n = 10
      · subst q1
        go_wp2_with fail
        refine (line_calls k a0 n0 k0 s1.c r1 ok1 sc1 HV.out h1 h2).mono ?_
        rintro e2 w2 ⟨rfl, g2, r2, s2, f2, m2⟩
        obtain ⟨-, -, -, -, -, -, -, d7, -, -, fd⟩ := block_cells r2.blk
        rw [s2.c, s1.c] at d7 fd
        obtain ⟨w3, hup, m3, hT3, hz3⟩ := r2.out.update (P := Tryd.prog) (t := 56) Tryd.underlying3 Tryd.underlying56 hwf (.slice none 0 0)
        have put := r2.put_out (w1 := w2) (w2 := w3) (v' := nilSlice) (k := (k : Int)) (t := []) (Turn.refl _ _) (SliceAt.nil _ _ _) (.inl (.inr rfl)) m3 hT3 hz3
        have HP := Lib.hid put
        have S2 := Lib.hid s2
        clear put m3 hT3 hz3 f2 m2 s2 hk0 c7 fz
        go_wp2
        go_roundg (gk - 1)
        case measure => omega
        case rel =>
          have e3 : S.write k (l.take (i + 1)) = { S1.line k (S1.out k) with out := upd (S1.line k (S1.out k)).out k [] } := by rw [HS.out]; unfold CS.put; rw [if_pos HN.out]; rfl
          exact ⟨i + 1, by omega, by go_num, _, by rw [e3]; exact HP.out.1, (s1.trans S2.out).trans HP.out.2⟩
      have q1b : ((n : Int) == 10) = false := by simp; omega
      go_upto_if 48 with fail
      go_cut [] from 48 to 62 (fun wx => RoomI g1 (S1.room k) wr wx)
      case first =>
        by_cases q2 : (S1.out k).length = 80
        · have q2b : ((n0 : Int) == 80) = true := by simp; omega
          go_wp2_with fail
          refine (line_calls k a0 n0 k0 s1.c r1 ok1 sc1 HV.out h1 h2).mono ?_
          rintro e2 w2 ⟨rfl, g2, r2, s2, f2, m2⟩
          obtain ⟨-, -, -, -, -, -, -, d7, -, -, fd⟩ := block_cells r2.blk
          rw [s2.c, s1.c] at d7 fd
          obtain ⟨w3, hup, m3, hT3, hz3⟩ := r2.out.update (P := Tryd.prog) (t := 56) Tryd.underlying3 Tryd.underlying56 hwf (.slice none 0 0)
          have put := r2.put_out (w1 := w2) (w2 := w3) (v' := nilSlice) (k := (k : Int)) (t := []) (Turn.refl _ _) (SliceAt.nil _ _ _) (.inl (.inr rfl)) m3 hT3 hz3
          have q7 : CS.room S1 k = { S1.line k (S1.out k) with out := upd (S1.line k (S1.out k)).out k [] } := by unfold CS.room; rw [if_pos q2]; rfl
          have FIN := Lib.hid (show RoomI g1 (S1.room k) wr w3 from ⟨_, by rw [q7]; exact put.1, s2.trans put.2⟩)
          clear put m3 hT3 hz3 f2 m2 s2 hk0 c7 fz q7
          go_wp2_with fail
          go_meet
          case rel => exact FIN.out
        · have q2b : ((n0 : Int) == 80) = false := by simp; omega
          have FIN := Lib.hid (show RoomI g1 (S1.room k) wr wr from ⟨g1, by unfold CS.room; rw [if_neg q2]; exact r1, Step.refl _ _⟩)
          clear hk0 c7 fz
          go_wp2_with fail
          go_meet
          case rel => exact FIN.out
      case rest =>
        obtain ⟨g3, r3, s3⟩ := hcut
        have R2 : Hid (Rep g3 (CS.room S1 k) wc ∧ Step g g3 w1 wc) := Lib.hid ⟨r3, s1.trans s3⟩
        have RL := Lib.hid (CS.room_out ok1 k)
        clear r3 s3 hk0 c7 fz
        by_cases q3 : n < 32
        · have q4 : (n : Int) < 32 := by omega
          obtain ⟨A0, N0, K0, pa, pn, pc, wa, wb, hV2, hN0, happ, hup2, hb3, G2, RP, SP⟩ := R2.out.1.put_byte k h2 63 (seen x) (seen_other HN.out (by omega)) RL.out
          have rl := R2.out.1.alloc (.cells #[.int .u8 (63 : Int)] 5)
          obtain ⟨-, -, -, -, -, -, -, x7, -, -, fx⟩ := block_cells R2.out.1.blk
          obtain ⟨-, -, -, -, -, -, -, y7, -, -, fy⟩ := block_cells rl.blk
          obtain ⟨-, -, -, -, -, -, -, z7, -, -, fz7⟩ := block_cells hb3
          rw [R2.out.2.c] at x7 fx y7 fy z7 fz7
          have lk0 := R2.out.1.drew.out.lookup (P := Tryd.prog) (t := 56) Tryd.underlying3 Tryd.underlying56 (z := nilSlice) (by kernel_rfl) hwf
          have lk1 := rl.drew.out.lookup (P := Tryd.prog) (t := 56) Tryd.underlying3 Tryd.underlying56 (z := nilSlice) (by kernel_rfl) hwf
          rw [hV2] at lk0 lk1
          have HP2 := Lib.hid (And.intro RP SP)
          have HV2 := Lib.hid (And.intro hV2 hN0)
          clear RP SP hV2 hN0 rl hb3
          go_wp2_with fail
          refine wp_region_plan (aF := ?aF_1) [12, 13, 14] [(0, 0), (0, 1), (0, 2), (1, 0), (1, 1), (1, 2), (2, 0), (2, 1), (2, 2), (3, 0), (3, 1), (3, 2), (4, 0), (4, 1), (4, 2), (5, 0), (5, 1), (5, 2), (6, 0), (6, 1), (6, 2), (7, 0), (7, 1), (8, 0), (8, 1), (9, 0), (9, 1), (10, 0), (10, 1), (11, 0), (12, 0), (13, 1), (14, 2)] [wc.drew, (wc.alloc (.cells #[.int .u8 (63 : Int)] 5)).drew, wa, wb] [?v0_1, ?v1_1, ?v2_1, ?v3_1, ?v4_1, ?v5_1, ?v6_1, ?v7_1, ?v8_1, ?v9_1, ?v10_1, ?v11_1, ?v12_1, .slice pa pn pc, undef] (by kernel_rfl) (by kernel_rfl) ?hF_1 rfl rfl rfl ?hob_1 ?hend_1
          case hF_1 => simp only [putAll, Act.put]; go_simp; rfl
          case hob_1 =>
            repeat' (first
              | exact obls_nil
              | (refine obls_cons rfl rfl rfl ?_ ?_)
              | (apply Runs.skip rfl rfl; (focus (go_simp; try exact rfl)); exact rfl)
              | (apply Runs.value rfl; (focus (go_simp; try exact rfl)); exact rfl))
            exact Runs.append rfl (.tmp 79) (.tmp 81) 26 26 rfl _ _ _ rfl rfl happ rfl
          clear x7 fx y7 fy z7 fz7 lk0 lk1 happ hup2
          go_wp2
          go_roundg (gk - 1)
          case measure => omega
          case rel => exact ⟨i + 1, by omega, by go_num, G2, by rw [HS.out]; unfold CS.put; rw [if_neg (by rw [HN.out]; omega)]; exact HP2.out.1, R2.out.2.trans HP2.out.2⟩
        by_cases q4 : 126 < n
        · have q5 : (126 : Int) < (n : Int) := by omega
          have q6 : ¬ (n : Int) < 32 := by omega
          obtain ⟨A0, N0, K0, pa, pn, pc, wa, wb, hV2, hN0, happ, hup2, hb3, G2, RP, SP⟩ := R2.out.1.put_byte k h2 63 (seen x) (seen_other HN.out (by omega)) RL.out
          have rl := R2.out.1.alloc (.cells #[.int .u8 (63 : Int)] 5)
          obtain ⟨-, -, -, -, -, -, -, x7, -, -, fx⟩ := block_cells R2.out.1.blk
          obtain ⟨-, -, -, -, -, -, -, y7, -, -, fy⟩ := block_cells rl.blk
          obtain ⟨-, -, -, -, -, -, -, z7, -, -, fz7⟩ := block_cells hb3
          rw [R2.out.2.c] at x7 fx y7 fy z7 fz7
          have lk0 := R2.out.1.drew.out.lookup (P := Tryd.prog) (t := 56) Tryd.underlying3 Tryd.underlying56 (z := nilSlice) (by kernel_rfl) hwf
          have lk1 := rl.drew.out.lookup (P := Tryd.prog) (t := 56) Tryd.underlying3 Tryd.underlying56 (z := nilSlice) (by kernel_rfl) hwf
          rw [hV2] at lk0 lk1
          have HP2 := Lib.hid (And.intro RP SP)
          have HV2 := Lib.hid (And.intro hV2 hN0)
          clear RP SP hV2 hN0 rl hb3
          go_wp2_with fail
          refine wp_region_plan (aF := ?aF_2) [12, 13, 14] [(0, 0), (0, 1), (0, 2), (1, 0), (1, 1), (1, 2), (2, 0), (2, 1), (2, 2), (3, 0), (3, 1), (3, 2), (4, 0), (4, 1), (4, 2), (5, 0), (5, 1), (5, 2), (6, 0), (6, 1), (6, 2), (7, 0), (7, 1), (8, 0), (8, 1), (9, 0), (9, 1), (10, 0), (10, 1), (11, 0), (12, 0), (13, 1), (14, 2)] [wc.drew, (wc.alloc (.cells #[.int .u8 (63 : Int)] 5)).drew, wa, wb] [?v0_2, ?v1_2, ?v2_2, ?v3_2, ?v4_2, ?v5_2, ?v6_2, ?v7_2, ?v8_2, ?v9_2, ?v10_2, ?v11_2, ?v12_2, .slice pa pn pc, undef] (by kernel_rfl) (by kernel_rfl) ?hF_2 rfl rfl rfl ?hob_2 ?hend_2
          case hF_2 => simp only [putAll, Act.put]; go_simp; rfl
          case hob_2 =>
            repeat' (first
              | exact obls_nil
              | (refine obls_cons rfl rfl rfl ?_ ?_)
              | (apply Runs.skip rfl rfl; (focus (go_simp; try exact rfl)); exact rfl)
              | (apply Runs.value rfl; (focus (go_simp; try exact rfl)); exact rfl))
            exact Runs.append rfl (.tmp 79) (.tmp 81) 26 26 rfl _ _ _ rfl rfl happ rfl
          clear x7 fx y7 fy z7 fz7 lk0 lk1 happ hup2
          go_wp2
          go_roundg (gk - 1)
          case measure => omega
          case rel => exact ⟨i + 1, by omega, by go_num, G2, by rw [HS.out]; unfold CS.put; rw [if_neg (by rw [HN.out]; omega)]; exact HP2.out.1, R2.out.2.trans HP2.out.2⟩
        have q5 : ¬ (126 : Int) < (n : Int) := by omega
        have q6 : ¬ (n : Int) < 32 := by omega
        obtain ⟨A0, N0, K0, pa, pn, pc, wa, wb, hV2, hN0, happ, hup2, hb3, G2, RP, SP⟩ := R2.out.1.put_byte k h2 n (seen x) (seen_same HN.out (by omega) (by omega)) RL.out
        have rl := R2.out.1.alloc (.cells #[.int .u8 (n : Int)] 5)
        obtain ⟨-, -, -, -, -, -, -, x7, -, -, fx⟩ := block_cells R2.out.1.blk
        obtain ⟨-, -, -, -, -, -, -, y7, -, -, fy⟩ := block_cells rl.blk
        obtain ⟨-, -, -, -, -, -, -, z7, -, -, fz7⟩ := block_cells hb3
        rw [R2.out.2.c] at x7 fx y7 fy z7 fz7
        have lk0 := R2.out.1.drew.out.lookup (P := Tryd.prog) (t := 56) Tryd.underlying3 Tryd.underlying56 (z := nilSlice) (by kernel_rfl) hwf
        have lk1 := rl.drew.out.lookup (P := Tryd.prog) (t := 56) Tryd.underlying3 Tryd.underlying56 (z := nilSlice) (by kernel_rfl) hwf
        rw [hV2] at lk0 lk1
        have HP2 := Lib.hid (And.intro RP SP)
        have HV2 := Lib.hid (And.intro hV2 hN0)
        clear RP SP hV2 hN0 rl hb3
        go_wp2_with fail
        refine wp_region_plan (aF := ?aF_3) [12, 13, 14] [(0, 0), (0, 1), (0, 2), (1, 0), (1, 1), (1, 2), (2, 0), (2, 1), (2, 2), (3, 0), (3, 1), (3, 2), (4, 0), (4, 1), (4, 2), (5, 0), (5, 1), (5, 2), (6, 0), (6, 1), (6, 2), (7, 0), (7, 1), (8, 0), (8, 1), (9, 0), (9, 1), (10, 0), (10, 1), (11, 0), (12, 0), (13, 1), (14, 2)] [wc.drew, (wc.alloc (.cells #[.int .u8 (n : Int)] 5)).drew, wa, wb] [?v0_3, ?v1_3, ?v2_3, ?v3_3, ?v4_3, ?v5_3, ?v6_3, ?v7_3, ?v8_3, ?v9_3, ?v10_3, ?v11_3, ?v12_3, .slice pa pn pc, undef] (by kernel_rfl) (by kernel_rfl) ?hF_3 rfl rfl rfl ?hob_3 ?hend_3
        case hF_3 => simp only [putAll, Act.put]; go_simp; rfl
        case hob_3 =>
          repeat' (first
            | exact obls_nil
            | (refine obls_cons rfl rfl rfl ?_ ?_)
            | (apply Runs.skip rfl rfl; (focus (go_simp; try exact rfl)); exact rfl)
            | (apply Runs.value rfl; (focus (go_simp; try exact rfl)); exact rfl))
          exact Runs.append rfl (.tmp 79) (.tmp 81) 26 26 rfl _ _ _ rfl rfl happ rfl
        clear x7 fx y7 fy z7 fz7 lk0 lk1 happ hup2
        go_wp2
        go_roundg (gk - 1)
        case measure => omega
        case rel => exact ⟨i + 1, by omega, by go_num, G2, by rw [HS.out]; unfold CS.put; rw [if_neg (by rw [HN.out]; omega)]; exact HP2.out.1, R2.out.2.trans HP2.out.2⟩
    · obtain rfl : i = l.length := by omega
      go_wp2
      go_ret
      rw [List.take_length] at r1
      exact ⟨rfl, g1, r1, s1⟩
end
end Go.Con
