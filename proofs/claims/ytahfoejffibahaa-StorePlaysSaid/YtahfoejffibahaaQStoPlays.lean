/-
  StorePlays, for every input.
-/
import Derived.Test.YtahfoejffibahaaQStoRPlay
import Derived.Test.YtahfoejffibahaaQStoDoGrow
import Derived.Test.YtahfoejffibahaaQStoEq
import Derived.Test.YtahfoejffibahaaQStoEq2
set_option linter.unusedVariables false

namespace Go.Sto
open Go.Own Go.RowKit Go.Proofs

theorem old_of_below {a b : World} (h : Below a.heap.size a b) : Old a b := ⟨h.os, h.tape, h.output, h.size, fun k hk _ => h.block k hk⟩

/-- What both plays give. -/
def playRes (n : Int) (l : List (Int × Int)) : List Int × BL × Int :=
  if 400 < l.length then ([], [], 2) else if ¬ (4 ≤ n ∧ n ≤ 32000 ∧ n % 2 = 0) then ([], [], 1) else if l.any badCall = true then ([], [], 1) else
  ((playEnd l n.toNat).gave, blocks 0 (playEnd l n.toNat).S, 0)

def POut (w0 : World) (r : List Int × BL × Int) (e : Ending) (w' : World) : Prop :=
  ∃ ga gc ba bc, e = .returned (.tuple #[.slice ga r.1.length gc, .slice ba r.2.1.length bc, .int .i64 r.2.2]) ∧ IntsC w' ga r.1 ∧ BlksC w' ba r.2.1 ∧ Old w0 w'

theorem POut.off {w0 w' : World} (E : Int) (h : Old w0 w') : POut w0 ([], [], E) (.returned (.tuple #[.slice none 0 0, .slice none 0 0, .int .i64 E])) w' :=
  ⟨none, 0, none, 0, rfl, (fun k x hk => by simp at hk), (fun k x hk => by simp at hk), h⟩
theorem POut.on {w0 w' : World} {v bv : Value} {l : List Int} {b : BL} (h1 : SliceAt w' 3 1 v (icells l)) (h2 : SliceAt w' 46 3 bv (blkCells b)) (h : Old w0 w') : POut w0 (l, b, 0) (.returned (.tuple #[v, bv, .int .i64 0])) w' := by
  obtain ⟨a, cap, rfl, -, -, hc⟩ := ints_form h1
  obtain ⟨a2, cap2, rfl, -, -, hc2⟩ := blocks_form h2
  exact ⟨a, cap, a2, cap2, rfl, hc, hc2, h⟩

theorem call_cases {l : List (Int × Int)} (h : l.any badCall = false) : ∀ p ∈ l, p.1 = 0 ∨ p.1 = 1 ∨ p.1 = 2 := fun p hp => by
  have h1 : badCall p = false := by
    cases hb : badCall p with
    | false => rfl
    | true => rw [List.any_eq_true.2 ⟨p, hp, hb⟩] at h; cases h
  unfold badCall at h1
  simp at h1
  omega

section
variable {w0 : World}

set_option maxRecDepth 100000 in
set_option maxHeartbeats 2000000 in
theorem play_out (n : Int) (l : List (Int × Int)) (a : Option Addr) (cap : Nat) (hin : PIn w0 a l) (hl : l.length ≤ 500) (hwf : ∀ p ∈ l, (Lit.int .i64 p.1).wf = true ∧ (Lit.int .i64 p.2).wf = true) :
    Calls Try.prog 13 #[.int .i64 n, .slice a l.length cap] w0 (POut w0 (playRes n l)) := by
  by_cases h4 : 400 < l.length
  · have e : playRes n l = ([], [], 2) := by unfold playRes; rw [if_pos h4]
    rw [e]
    have q2 : decide ((400 : Int) < (l.length : Int)) = true := decide_eq_true (by omega)
    have q3 : decide (400 < l.length) = true := decide_eq_true h4
    by_cases hn : 4 ≤ n ∧ n ≤ 32000 ∧ n % 2 = 0
    · obtain ⟨m, rfl⟩ := Int.eq_ofNat_of_zero_le (by omega : 0 ≤ n)
      have HN := Lib.hid (new_good m (by omega) (by omega) (by omega) w0)
      clear e hn hin hwf hl h4
      go_enter Try.func13, Try.ntmps13
      go_wp2_with fail
      refine HN.out.mono ?_
      rintro e1 w1 ⟨g1, rfl, -, -, hB1, -, -⟩
      have HO := Lib.hid (POut.off 2 (old_of_below hB1))
      clear hB1
      go_wp2_with fail
      go_ret3
      exact HO.out
    · have HN := Lib.hid (new_bad n hn w0)
      have HO := Lib.hid (POut.off (w0 := w0) (w' := w0) 2 (old_of_below (Below.refl _ _)))
      clear e hn hin hwf hl h4
      go_enter Try.func13, Try.ntmps13
      go_wp2_with fail
      refine HN.out.mono ?_
      rintro e1 w1 ⟨rfl, rfl⟩
      go_wp2_with fail
      go_ret3
      exact HO.out
  · by_cases hn : 4 ≤ n ∧ n ≤ 32000 ∧ n % 2 = 0
    · obtain ⟨m, rfl⟩ := Int.eq_ofNat_of_zero_le (by omega : 0 ≤ n)
      have hcf := fun w (h : PIn w a l) => contains_calls cap h (show l.length ≤ 1000 by omega)
      cases hb : l.any badCall with
      | false =>
        have e : playRes m l = ((playEnd l m).gave, blocks 0 (playEnd l m).S, 0) := by unfold playRes; rw [if_neg h4, if_neg (by omega), if_neg (by rw [hb]; decide), Int.toNat_natCast]
        rw [e]
        refine (play_good m (by omega) (by omega) (by omega) l a cap hin (by omega) (fun p hp => ?_) hwf (fun w h => by have := hcf w h; rw [hb] at this; exact this)).mono ?_
        · rcases call_cases hb p hp with q | q | q <;> rw [q]
          · exact doOk_get
          · exact doOk_put
          · exact doOk_grow
        · rintro e1 w1 ⟨v, bv, rfl, h1, h2, h3⟩
          exact POut.on h1 h2 h3
      | true =>
        have e : playRes m l = ([], [], 1) := by unfold playRes; rw [if_neg h4, if_neg (by omega), if_pos hb]
        rw [e]
        have q2 : decide ((400 : Int) < (l.length : Int)) = false := decide_eq_false (by omega)
        have q3 : decide (400 < l.length) = false := decide_eq_false h4
        have HN := Lib.hid (new_good m (by omega) (by omega) (by omega) w0)
        have HC := Lib.hid (And.intro hin hcf)
        have HB := Lib.hid hb
        clear e hn hin hwf hl h4 hcf hb
        go_enter Try.func13, Try.ntmps13
        go_wp2_with fail
        refine HN.out.mono ?_
        rintro e1 w1 ⟨g1, rfl, -, -, hB1, -, -⟩
        have HO := Lib.hid (old_of_below hB1)
        clear hB1
        go_wp2_with fail
        refine (HC.out.2 w1 (HC.out.1.old HO.out)).mono ?_
        rintro e2 w2 ⟨rfl, hB2⟩
        have HO2 := Lib.hid (POut.off 1 (old_trans HO.out (old_of_below hB2)))
        clear hB2
        rw [HB.out]
        go_wp2_with fail
        go_ret3
        exact HO2.out
    · have e : playRes n l = ([], [], 1) := by unfold playRes; rw [if_neg h4, if_pos hn]
      rw [e]
      have q2 : decide ((400 : Int) < (l.length : Int)) = false := decide_eq_false (by omega)
      have q3 : decide (400 < l.length) = false := decide_eq_false h4
      have HN := Lib.hid (new_bad n hn w0)
      have HO := Lib.hid (POut.off (w0 := w0) (w' := w0) 1 (old_of_below (Below.refl _ _)))
      clear e hn hin hwf hl h4
      go_enter Try.func13, Try.ntmps13
      go_wp2_with fail
      refine HN.out.mono ?_
      rintro e1 w1 ⟨rfl, rfl⟩
      go_wp2_with fail
      go_ret3
      exact HO.out

set_option maxRecDepth 100000 in
set_option maxHeartbeats 2000000 in
theorem rplay_out (n : Int) (l : List (Int × Int)) (a : Option Addr) (cap : Nat) (hin : PIn w0 a l) (hl : l.length ≤ 500) (hwf : ∀ p ∈ l, (Lit.int .i64 p.1).wf = true ∧ (Lit.int .i64 p.2).wf = true) :
    Calls Try.prog 14 #[.int .i64 n, .slice a l.length cap] w0 (POut w0 (playRes n l)) := by
  by_cases h4 : 400 < l.length
  · have e : playRes n l = ([], [], 2) := by unfold playRes; rw [if_pos h4]
    rw [e]
    have q2 : decide ((400 : Int) < (l.length : Int)) = true := decide_eq_true (by omega)
    have q3 : decide (400 < l.length) = true := decide_eq_true h4
    have HO := Lib.hid (POut.off (w0 := w0) (w' := w0) 2 (old_of_below (Below.refl _ _)))
    clear e hin hwf hl h4
    go_enter Try.func14, Try.ntmps14
    go_wp2_with fail
    go_ret3
    exact HO.out
  · by_cases hn : 4 ≤ n ∧ n ≤ 32000 ∧ n % 2 = 0
    · obtain ⟨m, rfl⟩ := Int.eq_ofNat_of_zero_le (by omega : 0 ≤ n)
      refine (rplay_good m (by omega) (by omega) (by omega) l a cap hin (by omega) hwf).mono ?_
      rintro e1 w1 (⟨hb, rfl, hB⟩ | ⟨hb, v, bv, rfl, h1, h2, h3⟩)
      · have e : playRes m l = ([], [], 1) := by unfold playRes; rw [if_neg h4, if_neg (by omega), if_pos hb]
        rw [e]
        exact POut.off 1 (old_of_below hB)
      · have e : playRes m l = ((playEnd l m).gave, blocks 0 (playEnd l m).S, 0) := by unfold playRes; rw [if_neg h4, if_neg (by omega), if_neg (by rw [hb]; decide), Int.toNat_natCast]
        have hr := rel_fold l (rel_start (n := m) (by omega) (by omega) (by omega))
        rw [e]
        have e1 : (playEnd l m).gave = (rplayEnd l m).gave := hr.gave
        have e2 : (playEnd l m).S = (rplayEnd l m).S := hr.S
        rw [e1, e2]
        exact POut.on h1 h2 (old_of_below h3)
    · have e : playRes n l = ([], [], 1) := by unfold playRes; rw [if_neg h4, if_pos hn]
      rw [e]
      have q2 : decide ((400 : Int) < (l.length : Int)) = false := decide_eq_false (by omega)
      have q3 : decide (400 < l.length) = false := decide_eq_false h4
      have HN := Lib.hid (fun w => rnew_bad n hn w)
      clear e hn hin hwf hl h4
      go_enter Try.func14, Try.ntmps14
      go_wp2_with fail
      refine (HN.out w0).mono ?_
      rintro e1 w1 ⟨rfl, hB1⟩
      have HO := Lib.hid (POut.off 1 (old_of_below (hB1.alloc hB1.size (.cells #[.slice none 0 0] 59))))
      clear hB1
      go_wp2_with fail
      go_ret3
      exact HO.out
end
end Go.Sto

/-
  StorePlays, for every input: the law itself.
-/
namespace Go.Sto
open Go.Own Go.RowKit Go.Proofs

section
variable {w0 : World}

theorem playRes_small (n : Int) (l : List (Int × Int)) (hl : l.length ≤ 500) : (playRes n l).1.length ≤ 1000000 ∧ (playRes n l).2.1.length ≤ 1000000 := by
  unfold playRes
  split
  · simp
  · split
    · simp
    · split
      · simp
      · rename_i h1 h2 h3
        have h2' : 4 ≤ n ∧ n ≤ 32000 ∧ n % 2 = 0 := by
          rcases Classical.em (4 ≤ n ∧ n ≤ 32000 ∧ n % 2 = 0) with q | q
          · exact q
          · exact absurd q h2
        obtain ⟨m, rfl⟩ := Int.eq_ofNat_of_zero_le (by omega : 0 ≤ n)
        have h5 := play_lens l ⟨newS m, [], [], []⟩
        have h6 := (rel_fold l (rel_start (n := m) (by omega) (by omega) (by omega))).ok.slen
        rw [Int.toNat_natCast]
        refine ⟨?_, ?_⟩
        · show ((playEnd l m).gave).length ≤ _
          unfold playEnd
          rw [h5.2.1]
          simp; omega
        · show (blocks 0 (playEnd l m).S).length ≤ _
          rw [blocks_length]
          have := h6.1
          unfold playEnd
          omega

def PlaysPost (w0 : World) (e : Ending) (w' : World) : Prop := e = .returned (.bool true) ∧ Old w0 w'

set_option maxRecDepth 100000 in
set_option maxHeartbeats 2000000 in
theorem plays_go (n : Int) (l : List (Int × Int)) (a : Option Addr) (cap : Nat) (hin : PIn w0 a l) (hl : l.length ≤ 500) (hwf : ∀ p ∈ l, (Lit.int .i64 p.1).wf = true ∧ (Lit.int .i64 p.2).wf = true)
    (h1 : n ≤ 2000 ∨ 32000 < n) (h2 : l.length ≤ 60 ∨ 400 < l.length) :
    Calls Try.prog 3 #[.int .i64 n, .slice a l.length cap] w0 (PlaysPost w0) := by
  have hs := playRes_small n l hl
  have HP := Lib.hid (play_out n l a cap hin hl hwf)
  have HR := Lib.hid (fun w h => rplay_out (w0 := w) n l a cap h hl hwf)
  have HI := Lib.hid (And.intro hin hs)
  have cs : (decide ((2000 : Int) < n) = false) ∨ (decide ((2000 : Int) < n) = true ∧ decide (n ≤ 32000) = false) := by
    by_cases h5 : 2000 < n
    · exact .inr ⟨decide_eq_true h5, decide_eq_false (by omega)⟩
    · exact .inl (decide_eq_false h5)
  have cl : (decide ((60 : Int) < (l.length : Int)) = false ∧ decide (60 < l.length) = false) ∨ (decide ((60 : Int) < (l.length : Int)) = true ∧ decide (60 < l.length) = true ∧ decide ((l.length : Int) ≤ 400) = false ∧ decide (l.length ≤ 400) = false) := by
    by_cases h5 : 60 < l.length
    · exact .inr ⟨decide_eq_true (by omega), decide_eq_true h5, decide_eq_false (by omega), decide_eq_false (by omega)⟩
    · exact .inl ⟨decide_eq_false (by omega), decide_eq_false h5⟩
  have q5 : decide ((500 : Int) < (l.length : Int)) = false := decide_eq_false (by omega)
  have q6 : decide (500 < l.length) = false := decide_eq_false (by omega)
  obtain ⟨⟨A, B, E⟩, hr⟩ : ∃ r, playRes n l = r := ⟨_, rfl⟩
  rw [hr] at HP HI
  have HR1 := Lib.hid (show ∀ w, PIn w a l → Calls Try.prog 14 #[.int .i64 n, .slice a l.length cap] w (POut w (A, B, E)) from fun w h => by rw [← hr]; exact HR.out w h)
  clear hin hl hwf h1 h2 hs hr HR
  have HE := Lib.hid (fun (w : World) (a1 a2 : Option Addr) (c1 c2 : Nat) (h1 : IntsC w a1 A) (h2 : IntsC w a2 A) => show Calls Try.prog 15 #[.slice a1 A.length c1, .slice a2 A.length c2] w fun e w' => e = .returned (.bool true) ∧ Below w.heap.size w w' from by
    have := eqints_calls c1 c2 h1 h2 HI.out.2.1 HI.out.2.1
    rw [decide_eq_true rfl] at this
    exact this)
  have HB := Lib.hid (fun (w : World) (a1 a2 : Option Addr) (c1 c2 : Nat) (h1 : BlksC w a1 B) (h2 : BlksC w a2 B) => show Calls Try.prog 16 #[.slice a1 B.length c1, .slice a2 B.length c2] w fun e w' => e = .returned (.bool true) ∧ Below w.heap.size w w' from by
    have := eqblocks_calls c1 c2 h1 h2 HI.out.2.2 HI.out.2.2
    rw [decide_eq_true rfl] at this
    exact this)
  rcases cs with q1 | ⟨q1, q4⟩ <;> rcases cl with ⟨q2, q3⟩ | ⟨q2, q3, q7, q8⟩
  all_goals
    go_enter Try.func3, Try.ntmps3
    go_wp2_with fail
    refine HP.out.mono ?_
    rintro e1 w1 ⟨ga, gc, ba, bc, rfl, i1, b1, o1⟩
    have H1 := Lib.hid (And.intro i1 (And.intro b1 o1))
    clear i1 b1 o1
    go_wp2_with fail
    refine (HR1.out w1 (HI.out.1.old H1.out.2.2)).mono ?_
    rintro e2 w2 ⟨ha, hc, ka, kc, rfl, i2, b2, o2⟩
    have B12 := Turn.below o2 (Nat.le_refl _)
    have H2 := Lib.hid (And.intro (H1.out.1.below B12) (And.intro (H1.out.2.1.below B12) (And.intro i2 (And.intro b2 (old_trans H1.out.2.2 o2)))))
    clear i2 b2 o2 B12
    go_wp2_with fail
    refine (HE.out w2 _ _ _ _ H2.out.1 H2.out.2.2.1).mono ?_
    rintro e3 w3 ⟨rfl, b3⟩
    have H3 := Lib.hid (And.intro (H2.out.2.1.below b3) (And.intro (H2.out.2.2.2.1.below b3) (old_trans H2.out.2.2.2.2 (old_of_below b3))))
    clear b3
    go_wp2_with fail
    refine (HB.out w3 _ _ _ _ H3.out.1 H3.out.2.1).mono ?_
    rintro e4 w4 ⟨rfl, b4⟩
    have H4 := Lib.hid (old_trans H3.out.2.2 (old_of_below b4))
    clear b4
    go_wp2_with fail
    refine (awake_calls w4).mono ?_
    rintro e5 w5 ⟨rfl, o5⟩
    have H5 := Lib.hid (old_trans H4.out o5)
    clear o5
    go_wp2_with fail
    go_ret
    exact ⟨rfl, H5.out⟩

set_option maxRecDepth 100000 in
set_option maxHeartbeats 2000000 in
theorem plays_aw (n : Int) (l : List (Int × Int)) (a : Option Addr) (cap : Nat)
    (h : (2000 < n ∧ n ≤ 32000) ∨ (60 < l.length ∧ l.length ≤ 400) ∨ 500 < l.length) :
    Calls Try.prog 3 #[.int .i64 n, .slice a l.length cap] w0 (PlaysPost w0) := by
  by_cases h1 : 2000 < n ∧ n ≤ 32000
  · have q1 : decide ((2000 : Int) < n) = true := decide_eq_true h1.1
    have q4 : decide (n ≤ 32000) = true := decide_eq_true h1.2
    clear h h1
    go_enter Try.func3, Try.ntmps3
    go_wp2_with fail
    refine (awake_calls w0).mono ?_
    rintro e6 w6 ⟨rfl, o6⟩
    go_wp2
    go_ret
    exact ⟨rfl, o6⟩
  · have cs : (decide ((2000 : Int) < n) = false) ∨ (decide ((2000 : Int) < n) = true ∧ decide (n ≤ 32000) = false) := by
      by_cases h5 : 2000 < n
      · exact .inr ⟨decide_eq_true h5, decide_eq_false (by omega)⟩
      · exact .inl (decide_eq_false h5)
    have q2 : decide ((60 : Int) < (l.length : Int)) = true := decide_eq_true (by omega)
    have q3 : decide (60 < l.length) = true := decide_eq_true (by omega)
    by_cases h2 : l.length ≤ 400
    · have q7 : decide ((l.length : Int) ≤ 400) = true := decide_eq_true (by omega)
      have q8 : decide (l.length ≤ 400) = true := decide_eq_true h2
      clear h h1 h2
      rcases cs with q1 | ⟨q1, q4⟩
      all_goals
        go_enter Try.func3, Try.ntmps3
        go_wp2_with fail
        refine (awake_calls w0).mono ?_
        rintro e6 w6 ⟨rfl, o6⟩
        go_wp2
        go_ret
        exact ⟨rfl, o6⟩
    · have q7 : decide ((l.length : Int) ≤ 400) = false := decide_eq_false (by omega)
      have q8 : decide (l.length ≤ 400) = false := decide_eq_false h2
      have q5 : decide ((500 : Int) < (l.length : Int)) = true := decide_eq_true (by omega)
      have q6 : decide (500 < l.length) = true := decide_eq_true (by omega)
      clear h h1 h2
      rcases cs with q1 | ⟨q1, q4⟩
      all_goals
        go_enter Try.func3, Try.ntmps3
        go_wp2_with fail
        refine (awake_calls w0).mono ?_
        rintro e6 w6 ⟨rfl, o6⟩
        go_wp2
        go_ret
        exact ⟨rfl, o6⟩

theorem plays_all (w0 : World) (n : Int) (l : List (Int × Int)) (a : Option Addr) (cap : Nat) (hin : PIn w0 a l) (hwf : ∀ p ∈ l, (Lit.int .i64 p.1).wf = true ∧ (Lit.int .i64 p.2).wf = true) :
    Calls Try.prog 3 #[.int .i64 n, .slice a l.length cap] w0 fun e w' => e = .returned (.bool true) ∧ Old w0 w' := by
  by_cases h : (2000 < n ∧ n ≤ 32000) ∨ (60 < l.length ∧ l.length ≤ 400) ∨ 500 < l.length
  · exact plays_aw n l a cap h
  · exact plays_go n l a cap hin (by omega) hwf (by omega) (by omega)
end
end Go.Sto
