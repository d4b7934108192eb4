/-
  StoreDoes, for every input.
-/
import Derived.Test.YtahfoejffibahaaQStoDoes
set_option linter.unusedVariables false

namespace Go.Sto
open Go.Own Go.RowKit Go.Proofs

set_option maxRecDepth 100000 in
set_option maxHeartbeats 2000000 in
theorem does_all (w0 : World) (n : Int) (l : List Act4) (a : Option Addr) (cap : Nat) (hin : AIn w0 a l) (hwf : ∀ p ∈ l, p.wf) :
    Calls Try.prog 10 #[.int .i64 n, .slice a l.length cap] w0 fun e w' => e = .returned (.bool true) ∧ Old w0 w' := by
  by_cases h2 : l.length ≤ 60
  · have q2 : decide ((60 : Int) < (l.length : Int)) = false := decide_eq_false (by omega)
    have q3 : decide (60 < l.length) = false := decide_eq_false (by omega)
    by_cases h3 : 2000 < n ∧ n ≤ 32000
    · have q1 : decide ((2000 : Int) < n) = true := decide_eq_true h3.1
      have q4 : decide (n ≤ 32000) = true := decide_eq_true h3.2
      clear hin hwf h3
      go_enter Try.func10, Try.ntmps10
      go_wp2_with fail
      refine (awake_calls w0).mono ?_
      rintro e6 w6 ⟨rfl, o6⟩
      go_wp2
      go_ret
      exact ⟨rfl, o6⟩
    · by_cases h4 : 4 ≤ n ∧ n ≤ 32000 ∧ n % 2 = 0
      · obtain ⟨m, rfl⟩ := Int.eq_ofNat_of_zero_le (by omega : 0 ≤ n)
        exact does_good w0 m (by omega) (by omega) (by omega) l a cap h2 hin hwf
      · have hb := Lib.hid (new_bad n h4 w0)
        have hb2 := Lib.hid (fun w => rnew_bad n h4 w)
        have fin : ∀ w1 w2 : World, Below w0.heap.size w0 w1 → Below w1.heap.size w1 w2 → ∀ w', Old w2 w' → Old w0 w' := fun w1 w2 b1 b2 w' o => by
          have b := b1.trans (b2.mono b1.size)
          exact ⟨o.os.trans b.os, o.tape.trans b.tape, o.output.trans b.output, Nat.le_trans b.size o.size, fun k hk _ => (o.block k (by have := b.size; omega) (by have := b.size; omega)).trans (b.block k hk)⟩
        have cs : (decide ((2000 : Int) < n) = false) ∨ (decide ((2000 : Int) < n) = true ∧ decide (n ≤ 32000) = false) := by
          by_cases h5 : 2000 < n
          · exact .inr ⟨decide_eq_true h5, decide_eq_false (by omega)⟩
          · exact .inl (decide_eq_false h5)
        have FIN := Lib.hid fin
        clear hin hwf h3 h4 fin
        rcases cs with q1 | ⟨q1, q4⟩
        all_goals
          go_enter Try.func10, Try.ntmps10
          go_wp2_with fail
          refine hb.out.mono ?_
          rintro e1 w1 ⟨rfl, rfl⟩
          go_wp2_with fail
          refine (hb2.out w1).mono ?_
          rintro e2 w2 ⟨rfl, b2⟩
          have HB := Lib.hid b2
          clear b2
          go_upto_region 6 with fail
          obtain ⟨w3, hw3⟩ : ∃ w3, w2.alloc (.cells #[.slice none 0 0] 59) = w3 := ⟨_, rfl⟩
          have b3 : Below w2.heap.size w2 w3 := by rw [← hw3]; exact (Below.refl _ w2).alloc (Nat.le_refl _) _
          rw [hw3]
          have HB3 := Lib.hid b3
          clear hw3 b3
          go_wp2_with fail
          refine (awake_calls w3).mono ?_
          rintro e6 w6 ⟨rfl, o6⟩
          go_wp2
          go_ret
          exact ⟨rfl, FIN.out w2 w3 HB.out HB3.out w6 o6⟩
  · have q2 : decide ((60 : Int) < (l.length : Int)) = true := decide_eq_true (by omega)
    have q3 : decide (60 < l.length) = true := decide_eq_true (by omega)
    have cs : (decide ((2000 : Int) < n) = false) ∨ (decide ((2000 : Int) < n) = true ∧ decide (n ≤ 32000) = false) ∨ (decide ((2000 : Int) < n) = true ∧ decide (n ≤ 32000) = true) := by
      by_cases h5 : 2000 < n
      · by_cases h6 : n ≤ 32000
        · exact .inr (.inr ⟨decide_eq_true h5, decide_eq_true h6⟩)
        · exact .inr (.inl ⟨decide_eq_true h5, decide_eq_false h6⟩)
      · exact .inl (decide_eq_false h5)
    clear hin hwf h2
    rcases cs with q1 | ⟨q1, q4⟩ | ⟨q1, q4⟩
    all_goals
      go_enter Try.func10, Try.ntmps10
      go_wp2_with fail
      refine (awake_calls w0).mono ?_
      rintro e6 w6 ⟨rfl, o6⟩
      go_wp2
      go_ret
      exact ⟨rfl, o6⟩
end Go.Sto
