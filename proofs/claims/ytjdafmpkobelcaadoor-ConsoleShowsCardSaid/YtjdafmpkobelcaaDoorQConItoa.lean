/-
  strconv.Itoa at the numbers below a hundred, walked: one digit or two.
-/
import Derived.Test.YtjdafmpkobelcaaDoorQConOutRep
set_option linter.unusedVariables false

namespace Go.Con
open Go.Own Go.RowKit Go.Proofs

theorem bytes_of_list {x : ByteArray} {l : Bytes} (h : x.data.toList = l) : x = ⟨l.toArray⟩ := by
  subst h
  rfl

set_option maxRecDepth 10000 in
theorem small_calls (n : Nat) (h : n < 100) (w : World) : Calls Tryd.prog 48 #[.int .i64 n] w fun e w' => e = .returned (str (numB n)) ∧ w' = w := by
  have hn : (n : Int) < 100 := by omega
  have h0 : (0 : Int) ≤ n := by omega
  by_cases h10 : n < 10
  · have h1 : (n : Int) < 10 := by omega
    go_enter Tryd.func48, Tryd.ntmps48
    go_wp2
    go_ret
    refine ⟨congrArg _ (congrArg _ (bytes_of_list ?_)), rfl⟩
    generalize hm : n = m at h10 ⊢
    clear hm
    revert h10
    revert m
    decide +kernel
  · have h1 : ¬ (n : Int) < 10 := by omega
    go_enter Tryd.func48, Tryd.ntmps48
    go_wp2
    go_ret
    refine ⟨congrArg _ (congrArg _ (bytes_of_list ?_)), rfl⟩
    generalize hm : n = m at h h10 ⊢
    clear hm
    revert h10
    revert h
    revert m
    decide +kernel

theorem formatInt_calls (n : Nat) (h : n < 100) (w : World) : Calls Tryd.prog 47 #[.int .i64 n, .int .i64 10] w fun e w' => e = .returned (str (numB n)) ∧ w' = w := by
  have hn : (n : Int) < 100 := by omega
  have h0 : (0 : Int) ≤ n := by omega
  go_enter Tryd.func47, Tryd.ntmps47
  go_wp2_with fail
  refine (small_calls n h w).mono ?_
  rintro e w' ⟨rfl, rfl⟩
  go_wp2
  go_ret
  exact ⟨rfl, rfl⟩

theorem iItoa_calls (n : Nat) (h : n < 100) (w : World) : Calls Tryd.prog 41 #[.int .i64 n] w fun e w' => e = .returned (str (numB n)) ∧ w' = w := by
  go_enter Tryd.func41, Tryd.ntmps41
  go_wp2_with fail
  refine (formatInt_calls n h w).mono ?_
  rintro e w' ⟨rfl, rfl⟩
  go_wp2
  go_ret
  exact ⟨rfl, rfl⟩

theorem itoa_calls (n : Nat) (h : n < 100) (w : World) : Calls Tryd.prog 35 #[.int .i64 n] w fun e w' => e = .returned (.string ⟨(numB n).toArray⟩) ∧ w' = w := by
  go_enter Tryd.func35, Tryd.ntmps35
  go_wp2_with fail
  refine (iItoa_calls n h w).mono ?_
  rintro e w' ⟨rfl, rfl⟩
  go_wp2
  go_ret
  exact ⟨rfl, rfl⟩
end Go.Con
