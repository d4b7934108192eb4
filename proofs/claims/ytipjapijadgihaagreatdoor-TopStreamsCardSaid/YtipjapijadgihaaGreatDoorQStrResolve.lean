/-
  Resolve, walked: a name in ram or of a pipe; a name through one assignment.
-/
import Derived.Test.YtipjapijadgihaaGreatDoorQStrLib
set_option linter.unusedVariables false

namespace Go.Str
open Go.Own Go.RowKit Go.Proofs

abbrev pt (b : Nat) : Value := .pointer (some ⟨b, 0, none⟩)

section
variable {w : World}

set_option maxHeartbeats 1000000 in
theorem resolve_given {l p q : Bytes} (hc : cutL l = (p, q)) (hl : l.length ≤ 1000) (hp : p = lRam ∨ p = lPipe) (h : isPathL p q = true) (hE : Env w) (sb : Nat) :
    Calls Tryz.prog 32 #[pt sb, .string (bs l)] w fun e w' => e = .returned (.tuple #[.string (bs (p ++ [58] ++ q)), .int .i64 0]) ∧ Turn (fun _ => False) w w' := by
  have hg : givenL p = true := by rcases hp with rfl | rfl <;> decide
  have hpl : p.length ≤ 10 := by rcases hp with rfl | rfl <;> decide
  have hql := isPath_len h
  have z1 := bs_size p
  have z2 := bs_size q
  have hC := cut_calls l (by omega) hE
  rw [hc] at hC
  have HC := Lib.hid hC
  have HG := Lib.hid (And.intro hg (And.intro hp (And.intro h hE)))
  clear hC hc hp h hg hE
  go_enter Tryz.func32, Tryz.ntmps32
  go_wp2_with fail
  refine HC.out.mono ?_
  rintro e1 w1 ⟨rfl, T1⟩
  have HT1 := Lib.hid T1
  clear T1
  go_wp2_with fail
  refine wp_loop_rounds 1 ?_
  rw [rounds_succ]
  go_wp2_with fail
  refine (given_calls p).mono ?_
  rintro e2 w2 ⟨rfl, rfl⟩
  rw [HG.out.1]
  go_wp2_with fail
  refine (full_calls p q HG.out.2.1 HG.out.2.2.1 (HG.out.2.2.2.turn HT1.out (fun e => e))).mono ?_
  rintro e3 w3 ⟨rfl, T3⟩
  have HT3 := Lib.hid T3
  clear T3
  go_wp2_with fail
  go_ret2
  refine ⟨?_, HT1.out.trans HT3.out⟩
  rw [show ({ data := #[58] } : ByteArray) = bs [58] from rfl, bs_append, bs_append]
  rfl

set_option maxHeartbeats 2000000 in
theorem resolve_assign {l a q t p' q' : Bytes} (hc : cutL l = (a, q)) (hl : l.length ≤ 1000) (hga : givenL a = false) (hsa : isShortL a = true) (hq : isPathL lRam q = true) (hqn : q ≠ []) (hE : Env w) {sb am : Nat} {A : ByteArray → Option Value}
    (hcell : w.cell? ⟨sb, 2, none⟩ = some (.map (some am))) (hM : MapST w am A) (hA : A (bs a) = some (.string (bs t))) (ht : Lib.hasSuffix t [58] = false) (htl : t.length ≤ 100)
    (hc2 : cutL (t ++ 47 :: q) = (p', q')) (hp : p' = lRam ∨ p' = lPipe) (h : isPathL p' q' = true) :
    Calls Tryz.prog 32 #[pt sb, .string (bs l)] w fun e w' => e = .returned (.tuple #[.string (bs (p' ++ [58] ++ q')), .int .i64 0]) ∧ Turn (fun _ => False) w w' := by
  have hg : givenL p' = true := by rcases hp with rfl | rfl <;> decide
  have hpl : p'.length ≤ 10 := by rcases hp with rfl | rfl <;> decide
  have hql := isPath_len h
  have hqq := isPath_len hq
  have z1 := bs_size p'
  have z2 := bs_size q'
  have hal : a.length ≤ 8 := by
    unfold isShortL at hsa
    rw [Bool.and_eq_true, Bool.and_eq_true, decide_eq_true_eq, decide_eq_true_eq] at hsa
    exact hsa.1.2
  have hlt := World.block_lt_of_cell? w _ hcell
  have hC := cut_calls l (by omega) hE
  rw [hc] at hC
  have HC := Lib.hid hC
  have HG := Lib.hid (And.intro hg (And.intro hp (And.intro h (And.intro hE (And.intro hga (And.intro hsa (And.intro hq (And.intro hqn (And.intro hM (And.intro hA (And.intro ht (And.intro hc2 (And.intro hcell hlt)))))))))))))
  have q0 : (q == []) = false := beq_eq_false_iff_ne.2 hqn
  have hq1 := bs_toList q
  clear hC hc hp h hg hE hga hsa hq hqn hM hA ht hc2 hcell hlt
  go_enter Tryz.func32, Tryz.ntmps32
  go_wp2_with fail
  refine HC.out.mono ?_
  rintro e1 w1 ⟨rfl, T1⟩
  have c2 : w1.cell? ⟨sb, 2, none⟩ = some (.map (some am)) := (T1.cell (p := ⟨sb, 2, none⟩) (fun e => e) HG.out.2.2.2.2.2.2.2.2.2.2.2.2.2).trans HG.out.2.2.2.2.2.2.2.2.2.2.2.2.1
  have HT1 := Lib.hid T1
  clear T1
  go_wp2_with fail
  refine wp_loop_rounds 2 ?_
  rw [rounds_succ]
  go_wp2_with fail
  refine (given_calls a).mono ?_
  rintro e2 w2 ⟨rfl, rfl⟩
  rw [HG.out.2.2.2.2.1]
  go_wp2_with fail
  refine (isShort_calls a HG.out.2.2.2.2.2.1).mono ?_
  rintro e3 w3 ⟨rfl, T3⟩
  have c3 : w3.cell? ⟨sb, 2, none⟩ = some (.map (some am)) := (T3.cell (p := ⟨sb, 2, none⟩) (fun e => e) (World.block_lt_of_cell? _ _ c2)).trans c2
  have HT3 := Lib.hid T3
  clear T3
  go_wp2_with fail
  refine (isPath_ram q HG.out.2.2.2.2.2.2.1 (HG.out.2.2.2.1.turn (HT1.out.trans HT3.out) (fun e => e))).mono ?_
  rintro e4 w4 ⟨rfl, T4⟩
  have c4 : w4.cell? ⟨sb, 2, none⟩ = some (.map (some am)) := (T4.cell (p := ⟨sb, 2, none⟩) (fun e => e) (World.block_lt_of_cell? _ _ c3)).trans c3
  have T14 := (HT1.out.trans HT3.out).trans T4
  have hM4 := HG.out.2.2.2.2.2.2.2.2.1.keep (T14.block am HG.out.2.2.2.2.2.2.2.2.1.lt (fun e => e))
  have HT4 := Lib.hid (And.intro T14 hM4)
  clear T4 T14 hM4 c2 c3
  have hlk : (Instr.lookup 77 (.map (some am)) (.string (bs a)) true).run Tryz.prog w4 = .ok (.tuple #[.string (bs t), .bool true]) w4 := by
    have h := HT4.out.2.at.lookup_ok (P := Tryz.prog) (t := 77) (z := .string ByteArray.empty) Tryz.underlying9 Tryz.underlying77 (by kernel_rfl) (k := bs a) (by rw [bs_size]; unfold maxLen; omega)
    rw [HG.out.2.2.2.2.2.2.2.2.2.1] at h
    exact h
  go_wp2_with fail
  refine (joined_calls t q HG.out.2.2.2.2.2.2.2.2.2.2.1 HG.out.2.2.2.2.2.2.2.1 htl (by omega)).mono ?_
  rintro e5 w5 ⟨rfl, rfl⟩
  have hC2 := cut_calls (w := w5) (t ++ 47 :: q) (by simp; omega) (HG.out.2.2.2.1.turn HT4.out.1 (fun e => e))
  rw [HG.out.2.2.2.2.2.2.2.2.2.2.2.1] at hC2
  have HC2 := Lib.hid hC2
  clear hC2
  go_wp2_with fail
  refine HC2.out.mono ?_
  rintro e6 w6 ⟨rfl, T6⟩
  have HT6 := Lib.hid T6
  clear T6
  go_wp2_with fail
  rw [rounds_succ]
  go_wp2_with fail
  refine (given_calls p').mono ?_
  rintro e7 w7 ⟨rfl, rfl⟩
  rw [HG.out.1]
  go_wp2_with fail
  refine (full_calls p' q' HG.out.2.1 HG.out.2.2.1 (HG.out.2.2.2.1.turn (HT4.out.1.trans HT6.out) (fun e => e))).mono ?_
  rintro e8 w8 ⟨rfl, T8⟩
  have HT8 := Lib.hid T8
  clear T8
  go_wp2_with fail
  go_ret2
  refine ⟨?_, (HT4.out.1.trans HT6.out).trans HT8.out⟩
  rw [show ({ data := #[58] } : ByteArray) = bs [58] from rfl, bs_append, bs_append]
  rfl
end
end Go.Str
