/-
  ConsoleRubs, walked: the whole.
-/
import Derived.Test.YtjdafmpkobelcaaConRubs2
namespace Go.Con
open Go.Own Go.RowKit Go.Proofs

theorem rubs_skip1 (w0 : World) (l m : Bytes) (a ma : Option Addr) (cap mcap : Nat) (hin : BCells w0 a l) (hl : l.length ≤ 140737488351232) (hp : plainB l = false) :
    Calls Try.prog 5 #[.slice a l.length cap, .slice ma m.length mcap] w0 fun e w' => e = .returned (.bool true) ∧ Old w0 w' := by
  have h1 := lawplain_calls w0 a cap l hin hl
  rw [hp] at h1
  have H1 := Lib.hid h1
  clear h1
  go_enter Try.func5, Try.ntmps5
  go_wp2_with (go_at_call 15; refine H1.out.mono ?_; rintro e w1 ⟨rfl, rfl⟩)
  go_ret
  exact ⟨rfl, Turn.refl _ _⟩

theorem rubs_skip2 (w0 : World) (l m : Bytes) (a ma : Option Addr) (cap mcap : Nat) (hin : BCells w0 a l) (hmin : BCells w0 ma m) (hl : l.length ≤ 140737488351232) (hml : m.length ≤ 140737488351232) (hp : plainB l = true) (hq : plainB m = false) :
    Calls Try.prog 5 #[.slice a l.length cap, .slice ma m.length mcap] w0 fun e w' => e = .returned (.bool true) ∧ Old w0 w' := by
  have h1 := lawplain_calls w0 a cap l hin hl
  have h2 := lawplain_calls w0 ma mcap m hmin hml
  rw [hp] at h1
  rw [hq] at h2
  have H1 := Lib.hid h1
  have H2 := Lib.hid h2
  clear h1 h2
  go_enter Try.func5, Try.ntmps5
  go_wp2_with fail
  refine H1.out.mono ?_
  rintro e w1 ⟨rfl, rfl⟩
  go_wp2_with fail
  refine H2.out.mono ?_
  rintro e w2 ⟨rfl, rfl⟩
  go_wp2
  go_ret
  exact ⟨rfl, Turn.refl _ _⟩

theorem rubs_skip3 (w0 : World) (l m : Bytes) (a ma : Option Addr) (cap mcap : Nat) (hin : BCells w0 a l) (hmin : BCells w0 ma m) (hl : l.length ≤ 140737488351232) (hml : m.length ≤ 140737488351232) (hp : plainB l = true) (hq : plainB m = true) (h80 : 80 < l.length + m.length) :
    Calls Try.prog 5 #[.slice a l.length cap, .slice ma m.length mcap] w0 fun e w' => e = .returned (.bool true) ∧ Old w0 w' := by
  have h1 := lawplain_calls w0 a cap l hin hl
  have h2 := lawplain_calls w0 ma mcap m hmin hml
  rw [hp] at h1
  rw [hq] at h2
  have H1 := Lib.hid h1
  have H2 := Lib.hid h2
  have h80' : (80 : Int) < (l.length : Int) + (m.length : Int) := by omega
  clear h1 h2
  go_enter Try.func5, Try.ntmps5
  go_wp2_with fail
  refine H1.out.mono ?_
  rintro e w1 ⟨rfl, rfl⟩
  go_wp2_with fail
  refine H2.out.mono ?_
  rintro e w2 ⟨rfl, rfl⟩
  go_wp2
  go_ret
  exact ⟨rfl, Turn.refl _ _⟩

set_option maxHeartbeats 2000000 in
theorem rubs_calls (w0 : World) (l m : Bytes) (a ma : Option Addr) (cap mcap : Nat) (hin : BCells w0 a l) (hmin : BCells w0 ma m) (hna : a = none → l = []) (hp : plainB l = true) (hq : plainB m = true) (h80 : l.length + m.length ≤ 80) :
    Calls Try.prog 5 #[.slice a l.length cap, .slice ma m.length mcap] w0 fun e w' => e = .returned (.bool true) ∧ Old w0 w' := by
  have h1 := lawplain_calls w0 a cap l hin (by omega)
  have h2 := lawplain_calls w0 ma mcap m hmin (by omega)
  rw [hp] at h1
  rw [hq] at h2
  have H1 := Lib.hid h1
  have H2 := Lib.hid h2
  have HI := Lib.hid hin
  have HM := Lib.hid hmin
  have HP := Lib.hid hp
  have HQ := Lib.hid hq
  have HNA := Lib.hid hna
  have h80' : ¬ ((80 : Int) < (l.length : Int) + (m.length : Int)) := by omega
  clear h1 h2 hin hmin hp hq hna
  go_enter Try.func5, Try.ntmps5
  go_wp2_with fail
  refine H1.out.mono ?_
  rintro e w1 ⟨rfl, rfl⟩
  go_wp2_with fail
  refine H2.out.mono ?_
  rintro e w2 ⟨rfl, rfl⟩
  go_wp2_with fail
  refine (new_calls w2).mono ?_
  rintro e w3 ⟨g, rfl, r3, t3, htag, hgc⟩
  have R0 : RS w2 g.c [] [] 0 w3 := ⟨g, _, r3, rfl, CS.new_ok, CS.new_small, St.new, fun k hk => by rw [htag k hk], t3.mono fun _ _ hh => hh.elim⟩
  generalize g.c = gc at *
  clear htag hgc r3 t3
  go_wp2_with fail
  refine (R0.type_any (t' := l) (ls' := []) (out := []) (by omega) (by omega) (R0.bin_old HI.out) (fun S st => st.type_plain HP.out (by simp; omega)) _ rfl).mono ?_
  rintro e w4 ⟨v4, rfl, R1, -⟩
  go_wp2_with fail
  refine (R1.type_any (t' := l ++ m) (ls' := []) (out := []) (by omega) (by omega) (R1.bin_old HM.out) (fun S st => st.type_plain HQ.out (by omega)) _ rfl).mono ?_
  rintro e w5 ⟨v5, rfl, R2, -⟩
  go_wp2_with fail
  have hN2 : 0 + 250 * l.length + 250 * m.length ≤ 20000 := by omega
  generalize 0 + 250 * l.length + 250 * m.length = N2 at *
  go_loopw [6] (fun iv wr => ∃ k : Nat, k ≤ m.length ∧ iv = .int .i64 k ∧ RS w2 gc (l ++ m.take (m.length - k)) [] (N2 + 250 * k) wr) (fun iv _ => m.length - (intOf iv).toNat)
  case atStart => exact ⟨0, Nat.zero_le _, rfl, by simpa using R2⟩
  case round =>
    obtain ⟨k, hk, rfl, R3⟩ := hrel
    by_cases hlt : k < m.length
    · have hsplit : l ++ m.take (m.length - k) = (l ++ m.take (m.length - (k + 1))) ++ [m[m.length - (k + 1)]'(by omega)] := by
        have e : m.length - k = (m.length - (k + 1)) + 1 := by omega
        rw [e, List.take_succ_eq_append_getElem (by omega), List.append_assoc]
      rw [hsplit] at R3
      have HR := Lib.hid R3
      clear R3 hsplit
      go_wp2_with (go_at_call 8; refine (HR.out.type_new 127 127 (by decide) (t' := l ++ m.take (m.length - (k + 1))) (ls' := []) (out := []) (by omega) (fun S st => ⟨st.key_rub, St.rub_lines S st.2.1⟩)).mono ?_; rintro e w6 ⟨v6, rfl, R4, -⟩)
      go_roundw
      case rel => exact ⟨k + 1, by omega, by go_num, by rw [show N2 + 250 * (k + 1) = N2 + 250 * k + 250 from by omega]; exact R4⟩
      case measure => simp [intOf]; omega
    · obtain rfl : k = m.length := by omega
      have R4 : RS w2 gc l [] (N2 + 250 * m.length) wr := by simpa using R3
      clear R3
      have hN3 : N2 + 250 * m.length ≤ 50000 := by omega
      generalize N2 + 250 * m.length = N3 at *
      have hcv := run_to_string_b (P := Try.prog) (cap := cap) Try.underlying22 Try.underlying5 Try.underlying9 (HI.out.old (Turn.drew (by obtain ⟨_, _, _, _, _, _, _, _, ho⟩ := R4; exact ho))) HNA.out
      go_wp2_with fail
      refine wp_region_still_lit (by kernel_rfl) (by kernel_rfl) ?_
      repeat (first | still_step | still_call (R4.drew.typed))
      refine wpStill_nil ?_
      have R5 := R4.drew
      change Exit.then _ _ _ _ wr.drew
      obtain ⟨w6, hw6⟩ : ∃ x, x = wr.drew := ⟨_, rfl⟩
      rw [← hw6] at R5 ⊢
      clear hw6 hcv R4
      go_wp2_with fail
      refine (R5.type_new 10 10 rfl (t' := []) (ls' := [l ++ [10]]) (out := [(1, l ++ [10])]) (by omega) (fun S st => st.key_end)).mono ?_
      rintro e w7 ⟨v7, rfl, R6, o7⟩
      have o7' : SliceAt w7 28 2 v7 [.int .i64 1, .string ⟨(l ++ [10]).toArray⟩] := o7
      obtain ⟨qa, qn, qc, rfl, ql, -⟩ := o7'.form
      obtain rfl : qn = 1 := by simp at ql; omega
      obtain ⟨qb, qo, rfl⟩ := o7'.addr (by decide)
      have l0 := o7'.cells 0 _ rfl
      have l1 := o7'.cells 1 _ rfl
      rw [Nat.add_zero] at l0
      clear o7 o7' ql
      have hcv := run_to_string_b (P := Try.prog) (cap := cap) Try.underlying22 Try.underlying5 Try.underlying9 (HI.out.old (Turn.drew (by obtain ⟨_, _, _, _, _, _, _, _, ho⟩ := R6; exact ho))) HNA.out
      have hcat : (⟨l.toArray⟩ : ByteArray) ++ ⟨#[10]⟩ = ⟨(l ++ [10]).toArray⟩ := bstr_append l [10]
      have hbig : ¬ (9223372036854775807 < l.length + 1) := by omega
      go_wp2_with fail
      refine wp_region_still_lit (by kernel_rfl) (by kernel_rfl) ?_
      repeat still_step
      refine wpStill_nil ?_
      have R7 := R6.drew
      have m0 : w7.drew.cell? ⟨qb, qo, none⟩ = _ := l0
      have m1 : w7.drew.cell? ⟨qb, qo + 1, none⟩ = _ := l1
      change Exit.then _ _ _ _ w7.drew
      obtain ⟨w8, hw8⟩ : ∃ x, x = w7.drew := ⟨_, rfl⟩
      rw [← hw8] at R7 ⊢
      clear hw8 hcv R6 m0 m1 l0 l1
      go_wp2_with fail
      refine (R7.type_any (t' := m) (ls' := [l ++ [10]]) (out := []) (by omega) (by omega) (R7.bin_old HM.out) (fun S st => st.type_plain HQ.out (by simp; omega)) _ rfl).mono ?_
      rintro e w9 ⟨v9, rfl, R8, -⟩
      go_wp2_with fail
      refine (R8.type_new 21 21 (by decide) (t' := []) (ls' := [l ++ [10]]) (out := []) (by omega) (fun S st => ⟨st.key_clear, St.clear_lines S st.2.1⟩)).mono ?_
      rintro e w10 ⟨v10, rfl, R9, -⟩
      go_wp2_with fail
      refine (R9.type_any (t' := l) (ls' := [l ++ [10]]) (out := []) (by omega) (by omega) (R9.bin_old HI.out) (fun S st => st.type_plain HP.out (by simp; omega)) _ rfl).mono ?_
      rintro e w11 ⟨v11, rfl, R10, -⟩
      go_wp2_with fail
      refine (R10.read rfl).mono ?_
      rintro e w12 ⟨rfl, R11⟩
      have hcv2 := run_to_string_b (P := Try.prog) (cap := cap) Try.underlying22 Try.underlying5 Try.underlying9 (HI.out.old (Turn.drew (by obtain ⟨_, _, _, _, _, _, _, _, ho⟩ := R11; exact ho))) HNA.out
      go_wp2_with fail
      go_still_tail 16, (by kernel_rfl)
      still_call (R11.drew.typed)
      repeat still_step
      refine wpStill_nil ?_
      have R12 := R11.drew
      change wpList _ _ _ _ _ w12.drew
      obtain ⟨w13, hw13⟩ : ∃ x, x = w12.drew := ⟨_, rfl⟩
      rw [← hw13] at R12 ⊢
      clear hw13 hcv2 R11
      go_wp2_with fail
      refine (awake_calls _).mono ?_
      rintro e w14 ⟨rfl, t14⟩
      go_wp2
      go_ret
      obtain ⟨_, _, _, _, _, _, _, _, ho⟩ := R12
      exact ⟨rfl, Old.trans ho t14⟩
end Go.Con
