/-
  ConsoleEdits, walked.
-/
import Derived.Test.YtjdafmpkobelcaaConEdit
namespace Go.Con
open Go.Own Go.RowKit Go.Proofs

theorem editOf_length (l : Bytes) : (editOf l).length ≤ l.length := by
  have h1 := CS.type_lines CS.new (plainOf l)
  have h2 := (pst_le l).2
  unfold editOf
  rw [List.length_map]
  unfold plainOf at *
  omega

set_option maxHeartbeats 1000000 in
theorem edits_calls (w0 : World) (l : Bytes) (a : Option Addr) (cap : Nat) (hl : l.length ≤ 3000) (hin : BCells w0 a l) :
    Calls Try.prog 6 #[.slice a l.length cap] w0 fun e w' => e = .returned (.bool true) ∧ Old w0 w' := by
  have hl' : ¬ ((3000 : Int) < (l.length : Int)) := by omega
  have HI := Lib.hid hin
  clear hin
  go_enter Try.func6, Try.ntmps6
  go_wp2_with fail
  refine (edit_calls w0 l a cap HI.out hl).mono ?_
  rintro e1 w1 ⟨v1, rfl, B1⟩
  have in1 := HI.out.old B1.old
  go_wp2_with fail
  refine (redit_calls w1 l a cap in1 hl).mono ?_
  rintro e2 w2 ⟨v2, rfl, B2⟩
  have B1' := B1.at_.turn B2.old (fun q hq hh => by have := B1.at_.lt q hq; have h2 : w1.heap.size ≤ q := hh; omega)
  have ot : Old w0 w2 := B1.old.trans ⟨B2.old.os, B2.old.tape, B2.old.output, B2.old.size, fun k hk hn => B2.old.block k hk fun hh => hn (Nat.le_trans B1.old.size hh)⟩
  obtain ⟨pa, pn, pc, rfl, -⟩ := B1'.form
  obtain ⟨qa, qn, qc, rfl, -⟩ := B2.at_.form
  obtain ⟨rfl, p1⟩ := SCells.of_slice B1'
  obtain ⟨rfl, q1⟩ := SCells.of_slice B2.at_
  have he := editOf_length l
  have OT := Lib.hid ot
  clear B1 B2 B1' in1 ot
  go_wp2_with fail
  refine (eqStrings_calls w2 pa qa pc qc (editOf l) p1 q1 (by omega)).mono ?_
  rintro e3 w3 ⟨rfl, t3⟩
  go_wp2_with fail
  refine (awake_calls w3).mono ?_
  rintro e4 w4 ⟨rfl, t4⟩
  go_wp2
  go_ret
  have o3 : Old w0 w3 := OT.out.trans (t3.mono fun _ _ hh => hh.elim)
  exact ⟨rfl, o3.trans ⟨t4.os, t4.tape, t4.output, t4.size, fun k hk hn => t4.block k hk fun hh => hn (Nat.le_trans o3.size hh)⟩⟩
end Go.Con
