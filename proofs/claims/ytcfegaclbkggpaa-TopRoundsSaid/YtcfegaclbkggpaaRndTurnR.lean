/-
  turn, walked: the task has nothing to do and waits.
-/
import Derived.Test.YtcfegaclbkggpaaRndTurn
namespace Go.Rnd
open Go.Own Go.RowKit Go.Proofs

section
variable {g g' : Gh} {σ σ' : Tags} {lb n : Nat} {f : Nat → SV} {w w' : World} {K K' : KS}

set_option maxRecDepth 10000 in
set_option maxHeartbeats 2000000 in
theorem turn_rest {kb i t : Nat} (F : Fit g σ lb n f K w kb i t) (hs : (f i).sends = []) (P : Int) (hP : ¬ (t = 1 ∧ ((f i).made : Int) < P)) (hq : (K.ts t).q = []) :
    Calls Try.prog 9 #[pt kb, .slice (some ⟨lb, 0, none⟩) n n, .int .i64 t, .int .i64 P] w (TurnPost g σ lb n (K.tick.rest t) f w) := by
  have hi := F.ei
  have ht := F.et
  have hn2 := F.n2
  have hn8 := F.n8
  obtain ⟨vs, vt, cur, c0, cz, -, -, -, -, s1, s2, d0, d1, d2, df⟩ := F.S.at F.ei
  obtain ⟨va, vn, vc, rfl, hvl, hvc, hvm, -⟩ := s1.1.form
  rw [hs] at hvl
  obtain rfl : vn = 0 := by simpa [nums] using hvl.symm
  have i1 : IntKind.i64.wrap ((t : Int) - 1) = (i : Int) := by rw [IntWalk.i64_in _ (by omega)]; omega
  have hnx := nx_ne (t := t) (n := n) (by omega) (by omega) hn2
  have i2 : wrap64 ((t : Int) % (n : Int) + 1) = ((t % n + 1 : Nat) : Int) := by
    have : (t : Int) % (n : Int) + 1 = ((t % n + 1 : Nat) : Int) := by push_cast; rfl
    rw [this]
    exact IntWalk.wrap64_in _ (by omega)
  have HD : Calls Try.prog 6 #[pt kb, doArg 4 0 0] w (fun e w' => e = .returned (.tuple #[.int .i64 0, .int .i64 0]) ∧ ∃ g' σ', Rep g' (K.tick.rest t) w' ∧ Sv g' σ' lb n f w' ∧ Step2 g g' σ σ' w w') := by
    refine (do_take_rest F.R F.ok F.k F.best (by omega) (by have := F.en; omega) (by have := F.en; omega) (by have := F.c; omega) hq).mono ?_
    rintro e w' ⟨rfl, g', R2, T2⟩
    exact ⟨rfl, g', σ, R2, F.S.step T2, Step2.kern σ T2⟩
  have HH := Lib.hid HD
  have HT := Lib.hid ht
  have hor : (((t : Int) = 1) = False) ∨ (((t : Int) = 1) = True ∧ decide (((f i).made : Int) < P) = false) := by
    by_cases e : (t : Int) = 1
    · exact .inr ⟨eq_true e, decide_eq_false fun h => hP ⟨by omega, h⟩⟩
    · exact .inl (eq_false e)
  clear hs s1 s2 c0 cz ht HD F hnx hP hq hvl
  obtain ⟨z, hz⟩ : ∃ z : Int, (t : Int) = z := ⟨_, rfl⟩
  rw [hz] at i1 i2 hor ⊢
  have HZ := Lib.hid hz
  clear hz
  rcases hor with q1 | ⟨q1, q2⟩
  all_goals
    go_enter Try.func9, Try.ntmps9
    go_upto_region 2 with fail
    go_step
    go_wp2_with fail
    refine HH.out.mono ?_
    rintro e1 w1 ⟨rfl, hr⟩
    have HR := Lib.hid hr
    clear hr
    go_wp2_with fail
    go_ret
    exact ⟨by simp, HR.out⟩
end
end Go.Rnd
