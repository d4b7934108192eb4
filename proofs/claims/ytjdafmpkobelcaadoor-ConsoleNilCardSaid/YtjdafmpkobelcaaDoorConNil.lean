/-
  ConsoleNil, walked: a console that there is not does nothing.
-/
import Derived.Test.YtjdafmpkobelcaaDoorConEq
namespace Go.Con
open Go.Own Go.RowKit Go.Proofs

theorem nil_Read (w : World) (t : Int) : Calls Tryd.prog 22 #[.pointer none, .int .i64 t] w fun e w' => e = .returned (.tuple #[.string ⟨#[]⟩, .bool false]) ∧ w' = w := by
  go_enter Tryd.func22, Tryd.ntmps22
  go_wp2
  go_ret2
  exact ⟨rfl, rfl⟩
theorem nil_Type (w : World) (a : Option Addr) (n cap : Nat) : Calls Tryd.prog 15 #[.pointer none, .slice a n cap] w fun e w' => e = .returned (.slice none 0 0) ∧ w' = w := by
  go_enter Tryd.func15, Tryd.ntmps15
  go_wp2
  go_ret
  exact ⟨rfl, rfl⟩
theorem nil_Write (w : World) (t : Int) (a : Option Addr) (n cap : Nat) : Calls Tryd.prog 9 #[.pointer none, .int .i64 t, .slice a n cap] w fun e w' => e = .returned (.int .i64 3) ∧ w' = w := by
  go_enter Tryd.func9, Tryd.ntmps9
  go_wp2
  go_ret
  exact ⟨rfl, rfl⟩
theorem nil_Flush (w : World) (t : Int) : Calls Tryd.prog 10 #[.pointer none, .int .i64 t] w fun e w' => e = .returned (.int .i64 3) ∧ w' = w := by
  go_enter Tryd.func10, Tryd.ntmps10
  go_wp2
  go_ret
  exact ⟨rfl, rfl⟩
theorem nil_Flags (w : World) (t : Int) : Calls Tryd.prog 23 #[.pointer none, .int .i64 t] w fun e w' => e = .returned (.int .i64 0) ∧ w' = w := by
  go_enter Tryd.func23, Tryd.ntmps23
  go_wp2
  go_ret
  exact ⟨rfl, rfl⟩
theorem nil_Screen (w : World) : Calls Tryd.prog 11 #[.pointer none] w fun e w' => e = .returned (.slice none 0 0) ∧ w' = w := by
  go_enter Tryd.func11, Tryd.ntmps11
  go_wp2
  go_ret
  exact ⟨rfl, rfl⟩
theorem nil_Chosen (w : World) : Calls Tryd.prog 17 #[.pointer none] w fun e w' => e = .returned (.int .i64 0) ∧ w' = w := by
  go_enter Tryd.func17, Tryd.ntmps17
  go_wp2
  go_ret
  exact ⟨rfl, rfl⟩
theorem nil_Typed (w : World) : Calls Tryd.prog 16 #[.pointer none] w fun e w' => e = .returned (.string ⟨#[]⟩) ∧ w' = w := by
  go_enter Tryd.func16, Tryd.ntmps16
  go_wp2
  go_ret
  exact ⟨rfl, rfl⟩

set_option maxHeartbeats 1000000 in
theorem nil_calls (w : World) (a : Option Addr) (n cap : Nat) (t : Int) : Calls Tryd.prog 6 #[.slice a n cap, .int .i64 t] w fun e w' => e = .returned (.bool true) ∧ Old w w' := by
  by_cases hn : n ≤ 1000
  · have hn' : ¬ ((1000 : Int) < (n : Int)) := by omega
    go_enter Tryd.func6, Tryd.ntmps6
    go_wp2_with fail
    refine (nil_Read w t).mono ?_
    rintro e1 w1 ⟨rfl, rfl⟩
    go_wp2_with fail
    refine (nil_Type w1 a n cap).mono ?_
    rintro e2 w2 ⟨rfl, rfl⟩
    go_wp2_with fail
    refine (nil_Write w2 t a n cap).mono ?_
    rintro e3 w3 ⟨rfl, rfl⟩
    go_wp2_with fail
    refine (nil_Flush w3 t).mono ?_
    rintro e4 w4 ⟨rfl, rfl⟩
    go_wp2_with fail
    refine (nil_Flags w4 t).mono ?_
    rintro e5 w5 ⟨rfl, rfl⟩
    go_wp2_with fail
    refine (nil_Screen w5).mono ?_
    rintro e6 w6 ⟨rfl, rfl⟩
    go_wp2_with fail
    refine (nil_Chosen w6).mono ?_
    rintro e7 w7 ⟨rfl, rfl⟩
    go_wp2_with fail
    refine (nil_Typed w7).mono ?_
    rintro e8 w8 ⟨rfl, rfl⟩
    go_wp2_with fail
    refine (awake_calls w8).mono ?_
    rintro e9 w9 ⟨rfl, t9⟩
    go_wp2
    go_ret
    exact ⟨rfl, t9⟩
  · have hn' : ((1000 : Int) < (n : Int)) := by omega
    go_enter Tryd.func6, Tryd.ntmps6
    go_wp2
    go_ret
    exact ⟨rfl, Turn.refl _ _⟩
end Go.Con
