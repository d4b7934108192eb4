/-
  The console's key, whole; Type; New.
-/
import Derived.Test.YtjdafmpkobelcaaDoorQConKeyN
import Derived.Test.YtjdafmpkobelcaaDoorQConKeyT
set_option linter.unusedVariables false

namespace Go.Con
open Go.Own Go.RowKit Go.Proofs

section
variable {g : Ghost} {S : CS} {w w' : World}

theorem keyN_all (n : Int) (b : UInt8) (hb : (b.toNat : Int) = n) {c : Nat} (hc : g.c = c) (h : Rep g S w) (hok : S.Ok) (hsm : S.Small 1099511000000) (hty : S.typing = false) (hn0 : 0 ≤ n) (hn255 : n ≤ 255) :
    Calls Tryd.prog 26 #[.pointer (some ⟨c, 0, none⟩), .int .u8 n] w (LinesPost g w (S.act b)) := by
  have hl80 := hok.typed
  have hc0 := hok.chosen0
  by_cases c1 : 32 ≤ n ∧ n ≤ 126
  · by_cases c2 : S.typed.length = 80
    · exact keyN_full n b hb hc h hok hsm hty hn0 hn255 c1.1 c1.2 c2
    · exact keyN_put n b hb hc h hok hsm hty hn0 hn255 c1.1 c1.2 (by omega)
  by_cases c2 : n = 10
  · exact keyN_end n b hb hc h hok hsm hty hn0 hn255 c2
  by_cases c3 : n = 127
  · by_cases c4 : S.typed.length = 0
    · exact keyN_rub0 n b hb hc h hok hsm hty hn0 hn255 c3 c4
    · exact keyN_rub1 n b hb hc h hok hsm hty hn0 hn255 c3 (by omega)
  by_cases c4 : n = 21
  · exact keyN_clear n b hb hc h hok hsm hty hn0 hn255 c4
  by_cases c5 : n = 18
  · exact keyN_again n b hb hc h hok hsm hty hn0 hn255 c5
  by_cases c6 : n = 16
  · by_cases c7 : S.typed.length = 0
    · exact keyN_hand0 n b hb hc h hok hsm hty hn0 hn255 c6 c7
    · exact keyN_hand1 n b hb hc h hok hsm hty hn0 hn255 c6 (by omega)
  by_cases c7 : n = 20
  · exact keyN_choose n b hb hc h hok hsm hty hn0 hn255 c7
  by_cases c8 : n = 0
  · exact keyN_zero n b hb hc h hok hsm hty hn0 hn255 c8
  by_cases c9 : 128 ≤ n
  · exact keyN_high n b hb hc h hok hsm hty hn0 hn255 c9
  by_cases d1 : n = 1
  · by_cases e : S.chosen = 0
    · exact keyN_flag1no n b hb hc h hok hsm hty hn0 hn255 d1 e
    · exact keyN_flag1 n b hb hc h hok hsm hty hn0 hn255 d1 (by omega)
  by_cases d2 : n = 2
  · by_cases e : S.chosen = 0
    · exact keyN_flag2no n b hb hc h hok hsm hty hn0 hn255 d2 e
    · exact keyN_flag2 n b hb hc h hok hsm hty hn0 hn255 d2 (by omega)
  by_cases d3 : n = 3
  · by_cases e : S.chosen = 0
    · exact keyN_flag3no n b hb hc h hok hsm hty hn0 hn255 d3 e
    · exact keyN_flag3 n b hb hc h hok hsm hty hn0 hn255 d3 (by omega)
  by_cases d4 : n = 4
  · by_cases e : S.chosen = 0
    · exact keyN_flag4no n b hb hc h hok hsm hty hn0 hn255 d4 e
    · exact keyN_flag4 n b hb hc h hok hsm hty hn0 hn255 d4 (by omega)
  exact keyN_low n b hb hc h hok hsm hty hn0 hn255 (by omega) (by omega) (by omega) (by omega) (by omega) (by omega) (by omega)

theorem keyT_all (n : Int) (b : UInt8) (hb : (b.toNat : Int) = n) {c : Nat} (hc : g.c = c) (h : Rep g S w) (hok : S.Ok) (hsm : S.Small 1099511000000) (hty : S.typing = true) (hnd : n < 48 ∨ 57 < n) (hn0 : 0 ≤ n) (hn255 : n ≤ 255) :
    Calls Tryd.prog 26 #[.pointer (some ⟨c, 0, none⟩), .int .u8 n] w (LinesPost g w (({ S with typing := false } : CS).act b)) := by
  have hl80 := hok.typed
  have hc0 := hok.chosen0
  by_cases c1 : 32 ≤ n ∧ n ≤ 126
  · by_cases c2 : S.typed.length = 80
    · exact keyT_full n b hb hc h hok hsm hty hnd hn0 hn255 c1.1 c1.2 c2
    · exact keyT_put n b hb hc h hok hsm hty hnd hn0 hn255 c1.1 c1.2 (by omega)
  by_cases c2 : n = 10
  · exact keyT_end n b hb hc h hok hsm hty hnd hn0 hn255 c2
  by_cases c3 : n = 127
  · by_cases c4 : S.typed.length = 0
    · exact keyT_rub0 n b hb hc h hok hsm hty hnd hn0 hn255 c3 c4
    · exact keyT_rub1 n b hb hc h hok hsm hty hnd hn0 hn255 c3 (by omega)
  by_cases c4 : n = 21
  · exact keyT_clear n b hb hc h hok hsm hty hnd hn0 hn255 c4
  by_cases c5 : n = 18
  · exact keyT_again n b hb hc h hok hsm hty hnd hn0 hn255 c5
  by_cases c6 : n = 16
  · by_cases c7 : S.typed.length = 0
    · exact keyT_hand0 n b hb hc h hok hsm hty hnd hn0 hn255 c6 c7
    · exact keyT_hand1 n b hb hc h hok hsm hty hnd hn0 hn255 c6 (by omega)
  by_cases c7 : n = 20
  · exact keyT_choose n b hb hc h hok hsm hty hnd hn0 hn255 c7
  by_cases c8 : n = 0
  · exact keyT_zero n b hb hc h hok hsm hty hnd hn0 hn255 c8
  by_cases c9 : 128 ≤ n
  · exact keyT_high n b hb hc h hok hsm hty hnd hn0 hn255 c9
  by_cases d1 : n = 1
  · by_cases e : S.chosen = 0
    · exact keyT_flag1no n b hb hc h hok hsm hty hnd hn0 hn255 d1 e
    · exact keyT_flag1 n b hb hc h hok hsm hty hnd hn0 hn255 d1 (by omega)
  by_cases d2 : n = 2
  · by_cases e : S.chosen = 0
    · exact keyT_flag2no n b hb hc h hok hsm hty hnd hn0 hn255 d2 e
    · exact keyT_flag2 n b hb hc h hok hsm hty hnd hn0 hn255 d2 (by omega)
  by_cases d3 : n = 3
  · by_cases e : S.chosen = 0
    · exact keyT_flag3no n b hb hc h hok hsm hty hnd hn0 hn255 d3 e
    · exact keyT_flag3 n b hb hc h hok hsm hty hnd hn0 hn255 d3 (by omega)
  by_cases d4 : n = 4
  · by_cases e : S.chosen = 0
    · exact keyT_flag4no n b hb hc h hok hsm hty hnd hn0 hn255 d4 e
    · exact keyT_flag4 n b hb hc h hok hsm hty hnd hn0 hn255 d4 (by omega)
  exact keyT_low n b hb hc h hok hsm hty hnd hn0 hn255 (by omega) (by omega) (by omega) (by omega) (by omega) (by omega) (by omega)

set_option maxHeartbeats 1000000 in
theorem key_digit (n : Int) (b : UInt8) (hb : (b.toNat : Int) = n) {c : Nat} (hc : g.c = c) (h : Rep g S w) (hok : S.Ok) (hty : S.typing = true) (h48 : 48 ≤ n) (h57 : n ≤ 57) :
    Calls Tryd.prog 26 #[.pointer (some ⟨c, 0, none⟩), .int .u8 n] w (LinesPost g w (S.digit b, [])) := by
  subst hc
  have HB := Lib.hid hb
  clear hb
  obtain ⟨-, -, c2, -⟩ := block_cells h.blk
  rw [hty] at c2
  clear hty
  go_enter Tryd.func26, Tryd.ntmps26
  go_wp2_with (go_at_call 36; refine (digit_yes n rfl h h48 h57 hok.digits0 hok.digits hok.number0 hok.number).mono ?_; rintro e1 w1 ⟨rfl, r1, s1⟩)
  go_ret
  have e1 : S.digit b = { S with number := (if S.digits = 0 then 0 else S.number) * 10 + (n - 48), digits := S.digits + 1, chosen := (if S.digits = 0 then 0 else S.number) * 10 + (n - 48), typing := decide (S.digits + 1 < 2) } := by
    unfold CS.digit CS.num
    rw [HB.out]
  rw [e1]
  exact LinesPost.nil rfl r1 s1

theorem key_calls (b : UInt8) {c : Nat} (hc : g.c = c) (h : Rep g S w) (hok : S.Ok) (hsm : S.Small 1099511000000) :
    Calls Tryd.prog 26 #[.pointer (some ⟨c, 0, none⟩), .int .u8 (b.toNat : Int)] w (LinesPost g w (S.key b)) := by
  have hb255 : (b.toNat : Int) ≤ 255 := by have := b.toNat_lt; omega
  unfold CS.key
  by_cases hty : S.typing = true
  · rw [if_pos hty]
    by_cases hd : isDigit b = true
    · rw [if_pos hd]
      have := (isDigit_iff b).1 hd
      exact key_digit _ b rfl hc h hok hty (by omega) (by omega)
    · rw [if_neg hd]
      have hnd : ¬ (48 ≤ b.toNat ∧ b.toNat ≤ 57) := fun e => hd ((isDigit_iff b).2 e)
      exact keyT_all _ b rfl hc h hok hsm hty (by omega) (by omega) hb255
  · rw [if_neg hty]
    exact keyN_all _ b rfl hc h hok hsm (by simpa using hty) (by omega) hb255
end
end Go.Con
