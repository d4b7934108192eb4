/-
  The console's rub and hand, walked.
-/
import Derived.BigQuiet
import Derived.Deep.QuietTactic
import Derived.Test.YtjdafmpkobelcaaDoorQConWalk1
set_option linter.unusedVariables false

namespace Go.Con
open Go.Own Go.RowKit Go.Proofs

section
variable {g : Ghost} {S : CS} {w w' : World}

set_option maxHeartbeats 400000 in
theorem rub_calls (n : Nat) {c : Nat} (hc : g.c = c) (h : Rep g S w) (hn : n ≤ S.typed.length) (ht80 : S.typed.length ≤ 80) (hs : S.screen.length ≤ 1099511600000) :
    Calls Tryd.prog 38 #[.pointer (some ⟨c, 0, none⟩), .int .i64 n] w fun e w' => e = .returned (.tuple #[]) ∧ ∃ g', Rep g' (S.rub n) w' ∧ Step g g' w w' := by
  subst hc
  go_enter Tryd.func38, Tryd.ntmps38
  go_wp2
  go_loopw [5] (fun i wr => ∃ k : Nat, k ≤ n ∧ i = .int .i64 k ∧ ∃ g', Rep g' (S.rub k) wr ∧ Step g g' w wr) (fun i _ => n - (intOf i).toNat)
  case atStart => exact ⟨0, Nat.zero_le _, rfl, g, by simpa [CS.rub, rubs] using h, Step.refl _ _⟩
  case round =>
    obtain ⟨k, hk, rfl, g1, hr, hst⟩ := hrel
    by_cases hlt : k < n
    · obtain ⟨a, cap, hv, hc, hsl⟩ := hr.typed_form
      obtain ⟨c0, -, -, -, -, -, -, -, -, -, fz⟩ := block_cells hr.blk
      have hlen : (S.rub k).typed.length = S.typed.length - k := by simp [CS.rub]
      rw [hlen] at hv hc hsl
      rw [hst.c, hv] at c0
      rw [hst.c] at fz
      have hm : S.typed.length - k ≤ 80 := by omega
      obtain ⟨m, hm1⟩ : ∃ m, S.typed.length - k = m + 1 := ⟨S.typed.length - k - 1, by omega⟩
      rw [hm1] at c0 hc
      have H := Lib.hid hm1
      have Hv := Lib.hid hv
      have hm2 : m < 80 := by omega
      clear hm1 hv hlen hm
      have hw1 : IntKind.i64.wrap (m : Int) = m := IntWalk.i64_in _ (by omega)
      have hw2 : wrap64 (m : Int) = m := by unfold wrap64; omega
      have hw3 : (0 : Int) ≤ m := by omega
      have hw4 : (m : Int) ≤ cap := by omega
      go_wp2
      go_region
      have hcc := hst.c
      have hk1 : S.typed.length - k = m + 1 := H.out
      have r2 := (hr.set_typed (.slice a m cap) ((S.rub k).typed.take m) ⟨by rw [← bcells_take]; have := hsl.take m (by omega); rwa [Nat.mul_one] at this, fun b hb => hr.typed.2 b (by rw [Hv.out]; cases a <;> exact hb)⟩).drew
      have s2 := (hst.trans (hr.step_set 0 (.slice a m cap) { g1 with tv := .slice a m cap } rfl rfl)).drew
      rw [hcc] at r2 s2
      have e2 : CS.echo { S.rub k with typed := (S.rub k).typed.take m } [8, 32, 8] = S.rub (k + 1) := by
        simp only [CS.echo, CS.rub, rubs, List.take_take, List.append_assoc]
        rw [show min m (S.typed.length - k) = S.typed.length - (k + 1) from by omega]
      have hb : List.length ({ S.rub k with typed := (S.rub k).typed.take m } : CS).screen + List.length ([8, 32, 8] : Bytes) ≤ 1099511627776 := by
        simp [CS.rub, rubs_length]; omega
      have E2 := Lib.hid e2
      clear hw1 hw2 hw3 hw4 c0 fz hsl e2 hcc
      go_wp2_with (go_at_call 34; refine (echo_calls (S := { S.rub k with typed := (S.rub k).typed.take m }) [8, 32, 8] s2.c r2 hb).mono ?_; rintro e w1 ⟨rfl, g2, r3, s3⟩)
      go_roundw
      case rel => exact ⟨k + 1, by omega, by go_num, g2, by rw [← E2.out]; exact r3, s2.trans s3⟩
      case measure => simp [intOf]; omega
    · obtain rfl : k = n := by omega
      go_wp2
      go_end0
      exact ⟨rfl, g1, hr, hst⟩
end
end Go.Con
