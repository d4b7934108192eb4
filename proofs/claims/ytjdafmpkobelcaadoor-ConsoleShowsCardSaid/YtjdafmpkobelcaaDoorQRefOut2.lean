/-
  The reference's Flush, Flags, Screen, Chosen, Typed, walked.
-/
import Derived.Test.YtjdafmpkobelcaaDoorQRefOut
set_option linter.unusedVariables false

namespace Go.Con
open Go.Own Go.RowKit Go.Proofs

section
variable {r : RG} {S : CS} {w w' : World}

def RG.on (r : RG) : RG := { r with bg := true }

theorem GI.start (h : RRep { r with bg := true } S w') (s : Step r.g r.g w w') : GI r.on S w w' := ⟨_, h, s, rfl, rfl⟩

set_option maxHeartbeats 1000000 in
theorem rflush_calls (k : Nat) {c : Nat} (hc : r.g.c = c) (h : RRep r S w) (ok : S.Ok) (hsc : S.screen.length ≤ 1099511000000) (h1 : 1 ≤ k) (h2 : k ≤ 99) :
    Calls Tryd.prog 30 #[.pointer (some ⟨c, 0, none⟩), .int .i64 k] w (GPost r.on (S.flush k) w (.int .i64 0)) := by
  subst hc
  have hg1 : ¬ (k : Int) < 1 := by omega
  have hg2 : ¬ (99 : Int) < (k : Int) := by omega
  have hk0 : (0 : Int) ≤ (k : Int) := by omega
  have hk1 : (k : Int) < 100 := by omega
  have HC := Lib.hid (rstart_calls rfl h)
  clear h
  go_enter Tryd.func30, Tryd.ntmps30
  go_wp2_with fail
  refine HC.out.mono ?_
  rintro e1 w1 ⟨rfl, R1, s1⟩
  have co := rblock_cells R1.blk (104 + k) (by omega)
  rw [rcell_own k (by omega)] at co
  obtain ⟨oa, on, oc, hov, hol, -⟩ := (R1.own k).1.form
  rw [bcells_length, Nat.mul_one] at hol
  have co' : w1.cell? ⟨r.g.c, 104 + k, none⟩ = some (.slice oa on oc) := by rw [← hov]; exact co
  by_cases ho : S.out k = []
  · have hn : on = 0 := by rw [ho] at hol; simpa using hol.symm
    subst hn
    have HF := Lib.hid (show GI r.on (S.flush k) w w1 from by unfold CS.flush; rw [if_pos ho]; exact GI.start R1 s1)
    clear co hov hol R1 s1 ho
    go_wp2_with fail
    go_ret
    exact ⟨rfl, HF.out⟩
  · have hn : (0 : Int) < (on : Int) := by have := List.length_pos_iff.2 ho; omega
    have hn' : 0 < on := by omega
    have HG := Lib.hid (goes_calls k (r := { r with bg := true }) rfl R1 rfl ok hsc h1 h2)
    have HF := Lib.hid (And.intro s1 ho)
    clear co hov hol R1 s1 ho
    go_wp2_with fail
    refine HG.out.mono ?_
    rintro e2 w2 ⟨rfl, r2, R2, s2, b2, t2⟩
    have HF2 := Lib.hid (show GI r.on (S.flush k) w w2 from by unfold CS.flush; rw [if_neg HF.out.2]; exact ⟨r2, R2, HF.out.1.trans s2, b2, t2⟩)
    clear R2 s2 b2 t2 co'
    go_wp2_with fail
    go_ret
    exact ⟨rfl, HF2.out⟩

theorem rflush_off (k : Int) (hk : k < 1 ∨ 99 < k) {c : Nat} (hc : r.g.c = c) (h : RRep r S w) :
    Calls Tryd.prog 30 #[.pointer (some ⟨c, 0, none⟩), .int .i64 k] w (GPost r.on S w (.int .i64 190)) := by
  subst hc
  have HC := Lib.hid (rstart_calls rfl h)
  clear h
  by_cases h1 : k < 1
  · go_enter Tryd.func30, Tryd.ntmps30
    go_wp2_with fail
    refine HC.out.mono ?_
    rintro e1 w1 ⟨rfl, R1, s1⟩
    have HF := Lib.hid (GI.start R1 s1)
    clear R1 s1 hk
    go_wp2_with fail
    go_ret
    exact ⟨rfl, HF.out⟩
  · have h2 : 99 < k := by omega
    go_enter Tryd.func30, Tryd.ntmps30
    go_wp2_with fail
    refine HC.out.mono ?_
    rintro e1 w1 ⟨rfl, R1, s1⟩
    have HF := Lib.hid (GI.start R1 s1)
    clear R1 s1 hk
    go_wp2_with fail
    go_ret
    exact ⟨rfl, HF.out⟩

theorem rflags_off (k : Int) (hk : k < 1 ∨ 99 < k) {c : Nat} (hc : r.g.c = c) (h : RRep r S w) :
    Calls Tryd.prog 32 #[.pointer (some ⟨c, 0, none⟩), .int .i64 k] w (GPost r.on S w (.int .i64 0)) := by
  subst hc
  have HC := Lib.hid (rstart_calls rfl h)
  clear h
  by_cases h1 : k < 1
  · go_enter Tryd.func32, Tryd.ntmps32
    go_wp2_with fail
    refine HC.out.mono ?_
    rintro e1 w1 ⟨rfl, R1, s1⟩
    have HF := Lib.hid (GI.start R1 s1)
    clear R1 s1 hk
    go_wp2_with fail
    go_ret
    exact ⟨rfl, HF.out⟩
  · have h2 : 99 < k := by omega
    go_enter Tryd.func32, Tryd.ntmps32
    go_wp2_with fail
    refine HC.out.mono ?_
    rintro e1 w1 ⟨rfl, R1, s1⟩
    have HF := Lib.hid (GI.start R1 s1)
    clear R1 s1 hk
    go_wp2_with fail
    go_ret
    exact ⟨rfl, HF.out⟩

theorem rflags_calls (k : Nat) {c : Nat} (hc : r.g.c = c) (h : RRep r S w) (h1 : 1 ≤ k) (h2 : k ≤ 99) :
    Calls Tryd.prog 32 #[.pointer (some ⟨c, 0, none⟩), .int .i64 k] w (GPost r.on (S.asked k) w (.int .i64 (S.flags k))) := by
  subst hc
  have hg1 : ¬ (k : Int) < 1 := by omega
  have hg2 : ¬ (99 : Int) < (k : Int) := by omega
  have hk0 : (0 : Int) ≤ (k : Int) := by omega
  have hk1 : (k : Int) < 100 := by omega
  have HC := Lib.hid (rstart_calls rfl h)
  clear h
  go_enter Tryd.func32, Tryd.ntmps32
  go_wp2_with fail
  refine HC.out.mono ?_
  rintro e1 w1 ⟨rfl, R1, s1⟩
  have cf := rblock_cells R1.blk (4 + k) (by omega)
  rw [rcell_flag k (by omega)] at cf
  have cf' : w1.cell? ⟨r.g.c, 4 + k, none⟩ = some (.int .i64 (S.flags k)) := cf
  have fz : w1.frozen? ⟨r.g.c, 4 + k, none⟩ = false := frozen_at R1.blk
  have R2 := R1.set_flag k (by omega) 0
  have HF := Lib.hid (show GI r.on (S.asked k) w (w1.setCell ⟨r.g.c, 4 + k, none⟩ (.int .i64 0)) from ⟨_, R2.1, s1.trans R2.2, rfl, rfl⟩)
  clear R1 s1 R2 cf
  go_wp2_with fail
  go_ret
  exact ⟨rfl, HF.out⟩

theorem rchosen_calls {c : Nat} (hc : r.g.c = c) (h : RRep r S w) :
    Calls Tryd.prog 19 #[.pointer (some ⟨c, 0, none⟩)] w (GPost r.on S w (.int .i64 S.chosen)) := by
  subst hc
  have HC := Lib.hid (rstart_calls rfl h)
  clear h
  go_enter Tryd.func19, Tryd.ntmps19
  go_wp2_with fail
  refine HC.out.mono ?_
  rintro e1 w1 ⟨rfl, R1, s1⟩
  obtain ⟨-, c1, -⟩ := rblock R1.blk
  have c1' : w1.cell? ⟨r.g.c, 1, none⟩ = some (.int .i64 S.chosen) := c1
  have HF := Lib.hid (GI.start R1 s1)
  clear R1 s1 c1
  go_wp2_with fail
  go_ret
  exact ⟨rfl, HF.out⟩

theorem rtyped_calls {c : Nat} (hc : r.g.c = c) (h : RRep r S w) : Calls Tryd.prog 20 #[.pointer (some ⟨c, 0, none⟩)] w fun e w' => e = .returned (.string ⟨S.typed.toArray⟩) ∧ w' = w := by
  subst hc
  obtain ⟨c0, -⟩ := rblock h.blk
  obtain ⟨a, cap, hv, -, hs⟩ := h.typed_form
  rw [hv] at c0
  have hcv := run_to_string (P := Tryd.prog) Tryd.underlying26 Tryd.underlying5 Tryd.underlying9 hs
  clear hv h hs
  go_enter Tryd.func20, Tryd.ntmps20
  go_wp2
  go_ret
  exact ⟨rfl, rfl⟩

set_option maxHeartbeats 400000 in
theorem rscreen_calls {c : Nat} (hc : r.g.c = c) (h : RRep r S w) (hs : S.screen.length ≤ 1099511627776) : Calls Tryd.prog 21 #[.pointer (some ⟨c, 0, none⟩)] w (BytesPost w S.screen) := by
  subst hc
  have hA := h.alloc (.cells #[] 5)
  obtain ⟨-, -, -, -, -, c9, -⟩ := rblock hA.blk
  obtain ⟨a, n, cap, hv, hl, -⟩ := hA.screen.1.form
  have hsl : SliceAt (w.alloc (.cells #[] 5)) 5 1 (.slice a n cap) (bcells S.screen) := by rw [← hv]; exact hA.screen.1
  rw [hv] at c9
  have sm := SliceAt.made (w := w.alloc (.cells #[] 5)) (sz := 1) (n := 0) (heap_alloc_new w _) rfl (by unfold maxLen; omega)
  have HS := Lib.hid (And.intro hsl sm)
  clear hv hl hsl sm hA h
  go_enter Tryd.func21, Tryd.ntmps21
  go_wp2_with (
    at_builtin
    refine wpList_append _ rfl _ _ 26 26 rfl 5 1 1 (.int .u8 0) Tryd.underlying26 (.inr ⟨_, Tryd.underlying26⟩) elemU8 (.slice (some ⟨w.heap.size, 0, none⟩) 0 0) _ rfl HS.out.2 _ _ _ rfl (Src.of_slice HS.out.1) (bcells_one _) (by rw [bcells_length]; simp; omega) (by rw [bcells_length]; simp; omega) ?_
    intro v' w1 hv' ht hw hn
    have HF := Lib.hid (And.intro hv' (And.intro ht hw))
    clear hv' ht hw hn)
  go_ret
  obtain ⟨hv', ht, hw⟩ := HF.out
  refine ⟨v', rfl, ?_, fun b hb => ?_, ?_⟩
  · simpa using hv'
  · rcases hw with hw | hw
    · rw [hw] at hb
      have e1 : w.heap.size = b := by simpa [Value.ownBlock] using hb
      rw [e1]; exact Nat.le_refl _
    · rw [hw] at hb; cases hb; simp
  · refine ((Turn.refl _ w).alloc _).trans ⟨ht.os, ht.tape, ht.output, ht.size, fun k hk hn => ht.block k hk fun e => hn ?_⟩
    have e1 : w.heap.size = k := by simpa [Value.ownBlock] using e
    rw [e1]; exact Nat.le_refl _
end
end Go.Con
