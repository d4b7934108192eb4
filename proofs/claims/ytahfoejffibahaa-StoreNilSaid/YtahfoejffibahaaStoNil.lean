/-
  A store that there is not: each call, walked; StoreNil.
-/
import Derived.Test.YtahfoejffibahaaStoGrow
import Derived.Test.YtahfoejffibahaaStoFreeWords
import Derived.Test.YtahfoejffibahaaStoTopMain
import Derived.Test.YtahfoejffibahaaStoAwake
namespace Go.Sto
open Go.Own Go.RowKit Go.Proofs

theorem get_nil (k : Int) (w : World) : Calls Try.prog 18 #[.pointer none, .int .i64 k] w fun e w' => e = .returned (.tuple #[.int .i64 0, .int .i64 3]) ∧ Below w.heap.size w w' := by
  go_enter Try.func18, Try.ntmps18
  go_wp2
  refine ⟨by simp, .tuple #[.int .i64 0, .int .i64 3], by simp [results, Try.f18, go_sem], rfl, ((Below.refl _ w).alloc (Nat.le_refl _) _).alloc (by simp) _⟩

theorem put_nil (a : Int) (w : World) : Calls Try.prog 19 #[.pointer none, .int .i64 a] w fun e w' => e = .returned (.int .i64 3) ∧ w = w' := by
  go_enter Try.func19, Try.ntmps19
  go_wp2
  go_ret
  exact ⟨rfl, rfl⟩

theorem size_nil (a : Int) (w : World) : Calls Try.prog 24 #[.pointer none, .int .i64 a] w fun e w' => e = .returned (.tuple #[.int .i64 0, .int .i64 3]) ∧ w = w' := by
  go_enter Try.func24, Try.ntmps24
  go_wp2
  go_ret2
  exact ⟨rfl, rfl⟩

theorem word_nil (a i : Int) (w : World) : Calls Try.prog 51 #[.pointer none, .int .i64 a, .int .i64 i] w fun e w' => e = .returned (.tuple #[.pointer none, .int .i64 3]) ∧ w = w' := by
  go_enter Try.func51, Try.ntmps51
  go_wp2
  go_ret2
  exact ⟨rfl, rfl⟩

theorem write_nil (a i v : Int) (w : World) : Calls Try.prog 26 #[.pointer none, .int .i64 a, .int .i64 i, .int .i64 v] w fun e w' => e = .returned (.int .i64 3) ∧ w = w' := by
  go_enter Try.func26, Try.ntmps26
  go_wp2_with (go_at_call 51; refine (word_nil a i _).mono ?_; rintro e w1 ⟨rfl, rfl⟩)
  go_ret
  exact ⟨rfl, rfl⟩

theorem read_nil (a i : Int) (w : World) : Calls Try.prog 25 #[.pointer none, .int .i64 a, .int .i64 i] w fun e w' => e = .returned (.tuple #[.int .i64 0, .int .i64 3]) ∧ w = w' := by
  go_enter Try.func25, Try.ntmps25
  go_wp2_with (go_at_call 51; refine (word_nil a i _).mono ?_; rintro e w1 ⟨rfl, rfl⟩)
  go_ret2
  exact ⟨rfl, rfl⟩

theorem blocks_nil (w : World) : Calls Try.prog 22 #[.pointer none] w fun e w' => e = .returned (.slice none 0 0) ∧ Below w.heap.size w w' := by
  go_enter Try.func22, Try.ntmps22
  go_wp2
  go_ret
  exact ⟨rfl, Below.refl _ _⟩

theorem image_nil (w : World) : Calls Try.prog 27 #[.pointer none] w fun e w' => e = .returned (.slice none 0 0) ∧ Below w.heap.size w w' := by
  go_enter Try.func27, Try.ntmps27
  go_wp2
  go_ret
  exact ⟨rfl, Below.refl _ _⟩

theorem Old.of_below {w w' : World} (h : Below w.heap.size w w') : Old w w' := ⟨h.os, h.tape, h.output, h.size, fun k hk _ => h.block k hk⟩

set_option maxRecDepth 100000 in
set_option maxHeartbeats 2000000 in
theorem nil_calls (a b : Int) (w : World) : Calls Try.prog 7 #[.int .i64 a, .int .i64 b] w fun e w' => e = .returned (.bool true) ∧ Old w w' := by
  go_enter Try.func7, Try.ntmps7
  go_wp2_with fail
  refine (get_nil a _).mono ?_
  rintro e w1 ⟨rfl, B1⟩
  have B1 := Lib.hid B1
  go_wp2_with fail
  refine (put_nil a _).mono ?_
  rintro e w2 ⟨rfl, rfl⟩
  go_wp2_with fail
  refine (grow_nil a b _).mono ?_
  rintro e w2 ⟨rfl, rfl⟩
  go_wp2_with fail
  refine (size_nil a _).mono ?_
  rintro e w2 ⟨rfl, rfl⟩
  go_wp2_with fail
  refine (write_nil a b a _).mono ?_
  rintro e w2 ⟨rfl, rfl⟩
  go_wp2_with fail
  refine (read_nil a b _).mono ?_
  rintro e w2 ⟨rfl, rfl⟩
  go_wp2_with fail
  refine (free_nil _).mono ?_
  rintro e w3 ⟨rfl, B3⟩
  have B3 := Lib.hid B3
  go_wp2_with fail
  refine (blocks_nil _).mono ?_
  rintro e w4 ⟨rfl, B4⟩
  have B4 := Lib.hid B4
  go_wp2_with fail
  refine (image_nil _).mono ?_
  rintro e w5 ⟨rfl, B5⟩
  have B5 := Lib.hid B5
  go_wp2_with fail
  refine (awake_calls _).mono ?_
  rintro e w6 ⟨rfl, o6⟩
  go_wp2_with fail
  go_ret
  exact ⟨rfl, ((((Old.of_below B1.out).then_ (Old.of_below B3.out)).then_ (Old.of_below B4.out)).then_ (Old.of_below B5.out)).then_ o6⟩
end Go.Sto
