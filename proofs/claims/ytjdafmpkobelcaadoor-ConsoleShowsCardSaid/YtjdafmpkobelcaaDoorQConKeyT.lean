/-
  The console's key, walked: a number is being typed, and the byte is no digit. (Printed by gen/genkey.py.)
-/
import Derived.Test.YtjdafmpkobelcaaDoorQConWalk4
set_option linter.unusedVariables false

namespace Go.Con
open Go.Own Go.RowKit Go.Proofs

section
variable {g : Ghost} {S : CS} {w w' : World}

set_option maxHeartbeats 1000000 in
theorem keyT_full (n : Int) (b : UInt8) (hb : (b.toNat : Int) = n) {c : Nat} (hc : g.c = c) (h : Rep g S w) (hok : S.Ok) (hsm : S.Small 1099511000000) (hty : S.typing = true) (hnd : n < 48 ∨ 57 < n) (hn0 : 0 ≤ n) (hn255 : n ≤ 255) (h1 : 32 ≤ n) (h2 : n ≤ 126) (hlen : S.typed.length = 80) :
    Calls Tryd.prog 26 #[.pointer (some ⟨c, 0, none⟩), .int .u8 n] w (LinesPost g w (({ S with typing := false } : CS).act b)) := by
  subst hc
  have HB := Lib.hid hb
  clear hb
  have HL := Lib.hid hlen
  clear hlen
  obtain ⟨-, -, c2x, -⟩ := block_cells h.blk
  rw [hty] at c2x
  clear hty
  go_enter Tryd.func26, Tryd.ntmps26
  go_wp2_with (first
    | (go_at_call 36; refine (digit_no _ rfl h (by omega) (by omega) hnd).mono ?_; rintro e1 w1 ⟨rfl, r1, s1⟩; obtain ⟨S1, hS1⟩ : ∃ x, x = ({ S with typing := false } : CS) := ⟨_, rfl⟩; rw [← hS1] at r1; have ok1 : S1.Ok := (by (rw [hS1]; exact CS.untyping_ok hok)); have sm1 : S1.Small 1099511000000 := (by (rw [hS1]; exact ⟨hsm.screen, hsm.lines, hsm.line⟩)); have HS := Lib.hid hS1; clear hS1; obtain ⟨a, cap, hv, hcp, hsl⟩ := r1.typed_form; obtain ⟨c0, -⟩ := block_cells r1.blk; rw [hv] at c0; rw [show S1.typed.length = 80 from by rw [HS.out]; exact HL.out] at c0; clear hv hcp hsl)
    | (go_at_call 34; refine (echo_calls [7] rfl r1 (by have := sm1.screen; simp; omega)).mono ?_; rintro e2 w2 ⟨rfl, g2, r2, s2⟩))
  go_ret
  have hbn := HB.out
  have e1 : ({ S with typing := false } : CS).act b = (S1.echo [7], []) := by rw [← HS.out]; unfold CS.act; rw [if_pos (by omega), if_pos (by rw [HS.out]; exact HL.out)]
  rw [e1]
  exact LinesPost.nil rfl r2 (s1.trans s2)

set_option maxHeartbeats 1000000 in
theorem keyT_put (n : Int) (b : UInt8) (hb : (b.toNat : Int) = n) {c : Nat} (hc : g.c = c) (h : Rep g S w) (hok : S.Ok) (hsm : S.Small 1099511000000) (hty : S.typing = true) (hnd : n < 48 ∨ 57 < n) (hn0 : 0 ≤ n) (hn255 : n ≤ 255) (h1 : 32 ≤ n) (h2 : n ≤ 126) (hlen : S.typed.length < 80) :
    Calls Tryd.prog 26 #[.pointer (some ⟨c, 0, none⟩), .int .u8 n] w (LinesPost g w (({ S with typing := false } : CS).act b)) := by
  subst hc
  have HB := Lib.hid hb
  clear hb
  have HL := Lib.hid hlen
  clear hlen
  obtain ⟨-, -, c2x, -⟩ := block_cells h.blk
  rw [hty] at c2x
  clear hty
  go_enter Tryd.func26, Tryd.ntmps26
  go_wp2_with (first
    | (go_at_call 36; refine (digit_no _ rfl h (by omega) (by omega) hnd).mono ?_; rintro e1 w1 ⟨rfl, r1, s1⟩; obtain ⟨S1, hS1⟩ : ∃ x, x = ({ S with typing := false } : CS) := ⟨_, rfl⟩; rw [← hS1] at r1; have ok1 : S1.Ok := (by (rw [hS1]; exact CS.untyping_ok hok)); have sm1 : S1.Small 1099511000000 := (by (rw [hS1]; exact ⟨hsm.screen, hsm.lines, hsm.line⟩)); have HS := Lib.hid hS1; clear hS1; obtain ⟨a, cap, hv, hcp, hsl⟩ := r1.typed_form; obtain ⟨c0, -, -, -, -, -, -, -, -, -, fz⟩ := block_cells r1.blk; have r1a := r1.alloc (.cells #[.int .u8 n] 5); obtain ⟨d0, -, -, -, -, -, -, -, -, -, fd⟩ := block_cells r1a.blk; have hsl2 := r1a.typed.1; rw [hv] at c0 d0 hsl2; have hlt : S1.typed.length < 80 := (by (rw [HS.out]; exact HL.out)); have hne : (((S1.typed.length : Nat) : Int) == 80) = false := (by (simp; omega)); have hty2 : ∀ k, (Value.slice a S1.typed.length cap).ownBlock = some k → g.tv.ownBlock = some k := (fun k hk => by (rw [hv]; exact hk)); have HV := Lib.hid (And.intro hv hty2); have hrune : ∀ W : World, (convert 21 9 (.int .i32 n)).run Tryd.prog W = .ok (.string ⟨[b].toArray⟩) W := (fun W => run_rune W b n HB.out (by omega)); clear hv hsl hty2)
    | (at_builtin; refine wpList_append _ rfl _ _ 26 26 rfl 5 1 1 (.int .u8 0) Tryd.underlying26 (.inr ⟨_, Tryd.underlying26⟩) elemU8 (.slice a S1.typed.length cap) _ rfl hsl2 _ _ _ rfl (Src.one (g := w1.heap.size) rfl (heap_alloc_new w1 _)) (by intro u hu; simp at hu; subst hu; rfl) (by simp [bcells_length]; omega) (by simp [bcells_length]; omega) ?_; intro v2 w2 hv2 ht2 hw2 hn2; clear hn2; obtain ⟨pa, pn, pc, rfl, -⟩ := hv2.form
       have hb2 := r1a.block_after ht2 (fun e => r1a.typed_ne (HV.out.2 _ e))
       obtain ⟨e0, -, -, -, -, -, -, -, -, -, fe⟩ := block_cells hb2
       have hv3 : SliceAt w2 5 1 (.slice pa pn pc) (bcells (S1.typed ++ [b])) := by (rw [bcells_append]; rw [show bcells [b] = [.int .u8 n] from by simp [bcells, HB.out]]; exact hv2)
       have pt := r1a.append_typed (ht2.mono fun k _ hk => HV.out.2 k hk) hv3 (hw2.imp_left fun e => e.trans (by rw [HV.out.1]))
       clear hv2 hv3)
    | (go_at_call 34; refine (echo_calls (S := { S1 with typed := S1.typed ++ [b] }) [b] rfl pt.1 (by have := sm1.screen; simp; omega)).mono ?_; rintro e3 w3 ⟨rfl, g3, r3, s3⟩))
  go_ret
  have hbn := HB.out
  have e1 : ({ S with typing := false } : CS).act b = (CS.echo { S1 with typed := S1.typed ++ [b] } [b], []) := by rw [← HS.out]; unfold CS.act; rw [if_pos (by omega), if_neg (by omega)]
  rw [e1]
  exact LinesPost.nil rfl r3 (((s1.alloc _).trans pt.2).trans s3)

set_option maxHeartbeats 1000000 in
theorem keyT_end (n : Int) (b : UInt8) (hb : (b.toNat : Int) = n) {c : Nat} (hc : g.c = c) (h : Rep g S w) (hok : S.Ok) (hsm : S.Small 1099511000000) (hty : S.typing = true) (hnd : n < 48 ∨ 57 < n) (hn0 : 0 ≤ n) (hn255 : n ≤ 255) (hn : n = 10) :
    Calls Tryd.prog 26 #[.pointer (some ⟨c, 0, none⟩), .int .u8 n] w (LinesPost g w (({ S with typing := false } : CS).act b)) := by
  subst hc
  subst hn
  have HB := Lib.hid hb
  clear hb
  obtain ⟨-, -, c2x, -⟩ := block_cells h.blk
  rw [hty] at c2x
  clear hty
  go_enter Tryd.func26, Tryd.ntmps26
  go_wp2_with (first
    | (go_at_call 36; refine (digit_no _ rfl h (by omega) (by omega) hnd).mono ?_; rintro e1 w1 ⟨rfl, r1, s1⟩; obtain ⟨S1, hS1⟩ : ∃ x, x = ({ S with typing := false } : CS) := ⟨_, rfl⟩; rw [← hS1] at r1; have ok1 : S1.Ok := (by (rw [hS1]; exact CS.untyping_ok hok)); have sm1 : S1.Small 1099511000000 := (by (rw [hS1]; exact ⟨hsm.screen, hsm.lines, hsm.line⟩)); have HS := Lib.hid hS1; clear hS1)
    | (go_at_call 34; refine (echo_calls [10] rfl r1 (by have := sm1.screen; simp; omega)).mono ?_; rintro e2 w2 ⟨rfl, g2, r2, s2⟩)
    | (go_at_call 37; refine (hand_calls (S := S1.echo [10]) [10] s2.c r2 ok1.typed (by simp) (by have := sm1.lines S1.chosen; exact Nat.le_trans this (by omega)) ok1.chosen0 ok1.chosen).mono ?_; rintro e3 w3 ⟨v3, g3, rfl, r3, s3, hv3, hb3⟩; obtain ⟨pa, pn, pc, rfl, -⟩ := hv3.form))
  go_ret
  have hbn := HB.out
  have e1 : ({ S with typing := false } : CS).act b = (S1.echo [10]).hand [10] := by rw [← HS.out]; unfold CS.act; rw [if_neg (by omega), if_pos (by omega)]
  rw [e1]
  exact ⟨_, g3, rfl, r3, (s1.trans s2).trans s3, hv3, fun k hk => by have := hb3 k hk; have h1 := s1.turn.size; have h2 := s2.turn.size; exact ⟨by omega, this.2⟩⟩

set_option maxHeartbeats 1000000 in
theorem keyT_rub0 (n : Int) (b : UInt8) (hb : (b.toNat : Int) = n) {c : Nat} (hc : g.c = c) (h : Rep g S w) (hok : S.Ok) (hsm : S.Small 1099511000000) (hty : S.typing = true) (hnd : n < 48 ∨ 57 < n) (hn0 : 0 ≤ n) (hn255 : n ≤ 255) (hn : n = 127) (hlen : S.typed.length = 0) :
    Calls Tryd.prog 26 #[.pointer (some ⟨c, 0, none⟩), .int .u8 n] w (LinesPost g w (({ S with typing := false } : CS).act b)) := by
  subst hc
  subst hn
  have HB := Lib.hid hb
  clear hb
  obtain ⟨-, -, c2x, -⟩ := block_cells h.blk
  rw [hty] at c2x
  clear hty
  go_enter Tryd.func26, Tryd.ntmps26
  go_wp2_with (first
    | (go_at_call 36; refine (digit_no _ rfl h (by omega) (by omega) hnd).mono ?_; rintro e1 w1 ⟨rfl, r1, s1⟩; obtain ⟨S1, hS1⟩ : ∃ x, x = ({ S with typing := false } : CS) := ⟨_, rfl⟩; rw [← hS1] at r1; have ok1 : S1.Ok := (by (rw [hS1]; exact CS.untyping_ok hok)); have sm1 : S1.Small 1099511000000 := (by (rw [hS1]; exact ⟨hsm.screen, hsm.lines, hsm.line⟩)); have HS := Lib.hid hS1; clear hS1; obtain ⟨a, cap, hv, hcp, hsl⟩ := r1.typed_form; obtain ⟨c0, -⟩ := block_cells r1.blk; rw [hv] at c0; have hl0 : S1.typed.length = 0 := (by (rw [HS.out]; exact hlen)); rw [hl0] at c0; have HL0 := Lib.hid hl0; clear hv hcp hsl hl0)
    | (go_at_call 38; refine (rub_calls 0 rfl r1 (by omega) ok1.typed (by have := sm1.screen; omega)).mono ?_; rintro e2 w2 ⟨rfl, g2, r2, s2⟩))
  go_ret
  have hbn := HB.out
  have e1 : ({ S with typing := false } : CS).act b = (S1.rub 0, []) := by rw [← HS.out]; unfold CS.act; rw [if_neg (by omega), if_neg (by omega), if_pos (by omega), HL0.out]; rfl
  rw [e1]
  exact LinesPost.nil rfl r2 (s1.trans s2)

set_option maxHeartbeats 1000000 in
theorem keyT_rub1 (n : Int) (b : UInt8) (hb : (b.toNat : Int) = n) {c : Nat} (hc : g.c = c) (h : Rep g S w) (hok : S.Ok) (hsm : S.Small 1099511000000) (hty : S.typing = true) (hnd : n < 48 ∨ 57 < n) (hn0 : 0 ≤ n) (hn255 : n ≤ 255) (hn : n = 127) (hlen : 0 < S.typed.length) :
    Calls Tryd.prog 26 #[.pointer (some ⟨c, 0, none⟩), .int .u8 n] w (LinesPost g w (({ S with typing := false } : CS).act b)) := by
  subst hc
  subst hn
  have HB := Lib.hid hb
  clear hb
  obtain ⟨-, -, c2x, -⟩ := block_cells h.blk
  rw [hty] at c2x
  clear hty
  go_enter Tryd.func26, Tryd.ntmps26
  go_wp2_with (first
    | (go_at_call 36; refine (digit_no _ rfl h (by omega) (by omega) hnd).mono ?_; rintro e1 w1 ⟨rfl, r1, s1⟩; obtain ⟨S1, hS1⟩ : ∃ x, x = ({ S with typing := false } : CS) := ⟨_, rfl⟩; rw [← hS1] at r1; have ok1 : S1.Ok := (by (rw [hS1]; exact CS.untyping_ok hok)); have sm1 : S1.Small 1099511000000 := (by (rw [hS1]; exact ⟨hsm.screen, hsm.lines, hsm.line⟩)); have HS := Lib.hid hS1; clear hS1; obtain ⟨a, cap, hv, hcp, hsl⟩ := r1.typed_form; obtain ⟨c0, -⟩ := block_cells r1.blk; have hl0 : 0 < S1.typed.length := (by (rw [HS.out]; exact hlen)); have hl80 := ok1.typed; obtain ⟨m, hm⟩ : ∃ m, S1.typed.length = m + 1 := ⟨S1.typed.length - 1, by omega⟩; rw [hv, hm] at c0; have hm80 : m < 80 := (by omega); have HM := Lib.hid hm; clear hv hcp hsl hl0 hl80 hm)
    | (go_at_call 38; refine (rub_calls 1 rfl r1 (by have := HM.out; omega) ok1.typed (by have := sm1.screen; omega)).mono ?_; rintro e2 w2 ⟨rfl, g2, r2, s2⟩))
  go_ret
  have hbn := HB.out
  have e1 : ({ S with typing := false } : CS).act b = (S1.rub 1, []) := by rw [← HS.out]; unfold CS.act; rw [if_neg (by omega), if_neg (by omega), if_pos (by omega), show min 1 S1.typed.length = 1 from by have := HM.out; omega]
  rw [e1]
  exact LinesPost.nil rfl r2 (s1.trans s2)

set_option maxHeartbeats 1000000 in
theorem keyT_clear (n : Int) (b : UInt8) (hb : (b.toNat : Int) = n) {c : Nat} (hc : g.c = c) (h : Rep g S w) (hok : S.Ok) (hsm : S.Small 1099511000000) (hty : S.typing = true) (hnd : n < 48 ∨ 57 < n) (hn0 : 0 ≤ n) (hn255 : n ≤ 255) (hn : n = 21) :
    Calls Tryd.prog 26 #[.pointer (some ⟨c, 0, none⟩), .int .u8 n] w (LinesPost g w (({ S with typing := false } : CS).act b)) := by
  subst hc
  subst hn
  have HB := Lib.hid hb
  clear hb
  obtain ⟨-, -, c2x, -⟩ := block_cells h.blk
  rw [hty] at c2x
  clear hty
  go_enter Tryd.func26, Tryd.ntmps26
  go_wp2_with (first
    | (go_at_call 36; refine (digit_no _ rfl h (by omega) (by omega) hnd).mono ?_; rintro e1 w1 ⟨rfl, r1, s1⟩; obtain ⟨S1, hS1⟩ : ∃ x, x = ({ S with typing := false } : CS) := ⟨_, rfl⟩; rw [← hS1] at r1; have ok1 : S1.Ok := (by (rw [hS1]; exact CS.untyping_ok hok)); have sm1 : S1.Small 1099511000000 := (by (rw [hS1]; exact ⟨hsm.screen, hsm.lines, hsm.line⟩)); have HS := Lib.hid hS1; clear hS1; obtain ⟨a, cap, hv, hcp, hsl⟩ := r1.typed_form; obtain ⟨c0, -⟩ := block_cells r1.blk; rw [hv] at c0; clear hv hcp hsl)
    | (go_at_call 38; refine (rub_calls S1.typed.length rfl r1 (Nat.le_refl _) ok1.typed (by have := sm1.screen; omega)).mono ?_; rintro e2 w2 ⟨rfl, g2, r2, s2⟩))
  go_ret
  have hbn := HB.out
  have e1 : ({ S with typing := false } : CS).act b = (S1.rub S1.typed.length, []) := by rw [← HS.out]; unfold CS.act; rw [if_neg (by omega), if_neg (by omega), if_neg (by omega), if_pos (by omega)]
  rw [e1]
  exact LinesPost.nil rfl r2 (s1.trans s2)

set_option maxHeartbeats 1000000 in
theorem keyT_again (n : Int) (b : UInt8) (hb : (b.toNat : Int) = n) {c : Nat} (hc : g.c = c) (h : Rep g S w) (hok : S.Ok) (hsm : S.Small 1099511000000) (hty : S.typing = true) (hnd : n < 48 ∨ 57 < n) (hn0 : 0 ≤ n) (hn255 : n ≤ 255) (hn : n = 18) :
    Calls Tryd.prog 26 #[.pointer (some ⟨c, 0, none⟩), .int .u8 n] w (LinesPost g w (({ S with typing := false } : CS).act b)) := by
  subst hc
  subst hn
  have HB := Lib.hid hb
  clear hb
  obtain ⟨-, -, c2x, -⟩ := block_cells h.blk
  rw [hty] at c2x
  clear hty
  go_enter Tryd.func26, Tryd.ntmps26
  go_wp2_with (first
    | (go_at_call 36; refine (digit_no _ rfl h (by omega) (by omega) hnd).mono ?_; rintro e1 w1 ⟨rfl, r1, s1⟩; obtain ⟨S1, hS1⟩ : ∃ x, x = ({ S with typing := false } : CS) := ⟨_, rfl⟩; rw [← hS1] at r1; have ok1 : S1.Ok := (by (rw [hS1]; exact CS.untyping_ok hok)); have sm1 : S1.Small 1099511000000 := (by (rw [hS1]; exact ⟨hsm.screen, hsm.lines, hsm.line⟩)); have HS := Lib.hid hS1; clear hS1; obtain ⟨a, cap, hv, hcp, hsl⟩ := r1.typed_form; obtain ⟨c0, -⟩ := block_cells r1.blk; rw [hv] at c0; have hcv := run_to_string (P := Tryd.prog) Tryd.underlying26 Tryd.underlying5 Tryd.underlying9 hsl; have hl80 := ok1.typed; clear hv hcp hsl)
    | (go_at_call 34; refine (echo_calls (10 :: S1.typed) rfl r1 (by have := sm1.screen; simp; omega)).mono ?_; rintro e2 w2 ⟨rfl, g2, r2, s2⟩))
  go_ret
  have hbn := HB.out
  have e1 : ({ S with typing := false } : CS).act b = (S1.echo ([10] ++ S1.typed), []) := by rw [← HS.out]; unfold CS.act; rw [if_neg (by omega), if_neg (by omega), if_neg (by omega), if_neg (by omega), if_pos (by omega)]
  rw [e1]
  exact LinesPost.nil rfl r2 (s1.trans s2)

set_option maxHeartbeats 1000000 in
theorem keyT_hand1 (n : Int) (b : UInt8) (hb : (b.toNat : Int) = n) {c : Nat} (hc : g.c = c) (h : Rep g S w) (hok : S.Ok) (hsm : S.Small 1099511000000) (hty : S.typing = true) (hnd : n < 48 ∨ 57 < n) (hn0 : 0 ≤ n) (hn255 : n ≤ 255) (hn : n = 16) (hlen : 0 < S.typed.length) :
    Calls Tryd.prog 26 #[.pointer (some ⟨c, 0, none⟩), .int .u8 n] w (LinesPost g w (({ S with typing := false } : CS).act b)) := by
  subst hc
  subst hn
  have HB := Lib.hid hb
  clear hb
  obtain ⟨-, -, c2x, -⟩ := block_cells h.blk
  rw [hty] at c2x
  clear hty
  go_enter Tryd.func26, Tryd.ntmps26
  go_wp2_with (first
    | (go_at_call 36; refine (digit_no _ rfl h (by omega) (by omega) hnd).mono ?_; rintro e1 w1 ⟨rfl, r1, s1⟩; obtain ⟨S1, hS1⟩ : ∃ x, x = ({ S with typing := false } : CS) := ⟨_, rfl⟩; rw [← hS1] at r1; have ok1 : S1.Ok := (by (rw [hS1]; exact CS.untyping_ok hok)); have sm1 : S1.Small 1099511000000 := (by (rw [hS1]; exact ⟨hsm.screen, hsm.lines, hsm.line⟩)); have HS := Lib.hid hS1; clear hS1; obtain ⟨a, cap, hv, hcp, hsl⟩ := r1.typed_form; obtain ⟨c0, -⟩ := block_cells r1.blk; rw [hv] at c0; have hl0 : 0 < S1.typed.length := (by (rw [HS.out]; exact hlen)); have hg0 : decide ((0 : Int) < ((S1.typed.length : Nat) : Int)) = true := (by (simp; omega)); clear hv hcp hsl)
    | (go_at_call 37; refine (hand_calls (S := S1) [] rfl r1 ok1.typed (by simp) (by have := sm1.lines S1.chosen; exact Nat.le_trans this (by omega)) ok1.chosen0 ok1.chosen).mono ?_; rintro e3 w3 ⟨v3, g3, rfl, r3, s3, hv3, hb3⟩; obtain ⟨pa, pn, pc, rfl, -⟩ := hv3.form))
  go_ret
  have hbn := HB.out
  have e1 : ({ S with typing := false } : CS).act b = S1.hand [] := by rw [← HS.out]; unfold CS.act; rw [if_neg (by omega), if_neg (by omega), if_neg (by omega), if_neg (by omega), if_neg (by omega), if_pos ⟨by omega, hl0⟩]
  rw [e1]
  exact ⟨_, g3, rfl, r3, s1.trans s3, hv3, fun k hk => by have := hb3 k hk; have h1 := s1.turn.size; exact ⟨by omega, this.2⟩⟩

set_option maxHeartbeats 1000000 in
theorem keyT_hand0 (n : Int) (b : UInt8) (hb : (b.toNat : Int) = n) {c : Nat} (hc : g.c = c) (h : Rep g S w) (hok : S.Ok) (hsm : S.Small 1099511000000) (hty : S.typing = true) (hnd : n < 48 ∨ 57 < n) (hn0 : 0 ≤ n) (hn255 : n ≤ 255) (hn : n = 16) (hlen : S.typed.length = 0) :
    Calls Tryd.prog 26 #[.pointer (some ⟨c, 0, none⟩), .int .u8 n] w (LinesPost g w (({ S with typing := false } : CS).act b)) := by
  subst hc
  subst hn
  have HB := Lib.hid hb
  clear hb
  obtain ⟨-, -, c2x, -⟩ := block_cells h.blk
  rw [hty] at c2x
  clear hty
  go_enter Tryd.func26, Tryd.ntmps26
  go_wp2_with (first
    | (go_at_call 36; refine (digit_no _ rfl h (by omega) (by omega) hnd).mono ?_; rintro e1 w1 ⟨rfl, r1, s1⟩; obtain ⟨S1, hS1⟩ : ∃ x, x = ({ S with typing := false } : CS) := ⟨_, rfl⟩; rw [← hS1] at r1; have ok1 : S1.Ok := (by (rw [hS1]; exact CS.untyping_ok hok)); have sm1 : S1.Small 1099511000000 := (by (rw [hS1]; exact ⟨hsm.screen, hsm.lines, hsm.line⟩)); have HS := Lib.hid hS1; clear hS1; obtain ⟨a, cap, hv, hcp, hsl⟩ := r1.typed_form; obtain ⟨c0, -⟩ := block_cells r1.blk; rw [hv] at c0; have hl0 : S1.typed.length = 0 := (by (rw [HS.out]; exact hlen)); rw [hl0] at c0; have HL0 := Lib.hid hl0; clear hv hcp hsl hl0))
  go_ret
  have hbn := HB.out
  have e1 : ({ S with typing := false } : CS).act b = (S1, []) := by rw [← HS.out]; unfold CS.act; rw [if_neg (by omega), if_neg (by omega), if_neg (by omega), if_neg (by omega), if_neg (by omega), if_neg (by have := HL0.out; omega), if_neg (by omega), if_neg (by omega)]
  rw [e1]
  exact LinesPost.nil rfl r1 s1

set_option maxHeartbeats 1000000 in
theorem keyT_flag1 (n : Int) (b : UInt8) (hb : (b.toNat : Int) = n) {c : Nat} (hc : g.c = c) (h : Rep g S w) (hok : S.Ok) (hsm : S.Small 1099511000000) (hty : S.typing = true) (hnd : n < 48 ∨ 57 < n) (hn0 : 0 ≤ n) (hn255 : n ≤ 255) (hn : n = 1) (hch : 0 < S.chosen) :
    Calls Tryd.prog 26 #[.pointer (some ⟨c, 0, none⟩), .int .u8 n] w (LinesPost g w (({ S with typing := false } : CS).act b)) := by
  subst hc
  subst hn
  have HB := Lib.hid hb
  clear hb
  obtain ⟨-, -, c2x, -⟩ := block_cells h.blk
  rw [hty] at c2x
  clear hty
  go_enter Tryd.func26, Tryd.ntmps26
  go_wp2_with (first
    | (go_at_call 36; refine (digit_no _ rfl h (by omega) (by omega) hnd).mono ?_; rintro e1 w1 ⟨rfl, r1, s1⟩; obtain ⟨S1, hS1⟩ : ∃ x, x = ({ S with typing := false } : CS) := ⟨_, rfl⟩; rw [← hS1] at r1; have ok1 : S1.Ok := (by (rw [hS1]; exact CS.untyping_ok hok)); have sm1 : S1.Small 1099511000000 := (by (rw [hS1]; exact ⟨hsm.screen, hsm.lines, hsm.line⟩)); have HS := Lib.hid hS1; clear hS1; obtain ⟨-, c1, -, -, -, -, c6, -, -, -, fz⟩ := block_cells r1.blk; have hch1 : 0 < S1.chosen := (by (rw [HS.out]; exact hch)); have hg0 : decide ((0 : Int) < S1.chosen) = true := (by (simp; omega)); have hwf : (Lit.int .i64 S1.chosen).wf = true := wf_i64 (by omega) (by have := ok1.chosen; omega); have hk0 := r1.drew.flags.lookup (P := Tryd.prog) (t := 55) Tryd.underlying3 Tryd.underlying55 (z := .int .i64 0) (by kernel_rfl) hwf; rw [r1.flagsv] at hk0; obtain ⟨w2, hup, m2, hT2, hz2⟩ := r1.drew.flags.update (P := Tryd.prog) (t := 55) Tryd.underlying3 Tryd.underlying55 hwf (.int .i64 (bits .or .i64 (S1.flags S1.chosen) 1)); have pf := r1.drew.put_flag m2 hT2 hz2; have HP := Lib.hid pf; clear pf m2 hT2 hz2))
  refine wp_region_plan (aF := ?aF) [13] [(0, 0), (1, 0), (2, 0), (3, 0), (4, 0), (5, 0), (6, 0), (7, 0), (8, 0), (9, 0), (10, 0), (11, 0), (12, 0), (13, 0)] [w1.drew, w2] [?v0, ?v1, ?v2, ?v3, ?v4, ?v5, ?v6, ?v7, ?v8, ?v9, ?v10, ?v11, .int .i64 (bits .or .i64 (S1.flags S1.chosen) 1), undef] (by kernel_rfl) (by kernel_rfl) ?hF rfl rfl rfl ?hob ?hend
  case hF => simp only [putAll, Act.put]; go_simp; rfl
  case hob =>
    repeat' (first
      | exact obls_nil
      | (refine obls_cons rfl rfl rfl ?_ ?_)
      | (apply Runs.skip rfl rfl; (focus (go_simp; try exact rfl)); exact rfl)
      | (apply Runs.value rfl; (focus (go_simp; try exact rfl)); exact rfl))
  case hend =>
    go_wp2
    go_ret
    have hbn := HB.out
    have e1 : ({ S with typing := false } : CS).act b = ({ S1 with flags := upd S1.flags S1.chosen (orI (S1.flags S1.chosen) 1) }, []) := by rw [← HS.out]; unfold CS.act; rw [if_neg (by omega), if_neg (by omega), if_neg (by omega), if_neg (by omega), if_neg (by omega), if_neg (by omega), if_pos ⟨by omega, by omega, hch1⟩, show flagOf b = 1 from by unfold flagOf; simp [show b.toNat = 1 from by omega]]
    rw [e1]
    exact LinesPost.nil rfl HP.out.1 (s1.drew.trans HP.out.2)

set_option maxHeartbeats 1000000 in
theorem keyT_flag1no (n : Int) (b : UInt8) (hb : (b.toNat : Int) = n) {c : Nat} (hc : g.c = c) (h : Rep g S w) (hok : S.Ok) (hsm : S.Small 1099511000000) (hty : S.typing = true) (hnd : n < 48 ∨ 57 < n) (hn0 : 0 ≤ n) (hn255 : n ≤ 255) (hn : n = 1) (hch : S.chosen = 0) :
    Calls Tryd.prog 26 #[.pointer (some ⟨c, 0, none⟩), .int .u8 n] w (LinesPost g w (({ S with typing := false } : CS).act b)) := by
  subst hc
  subst hn
  have HB := Lib.hid hb
  clear hb
  obtain ⟨-, -, c2x, -⟩ := block_cells h.blk
  rw [hty] at c2x
  clear hty
  go_enter Tryd.func26, Tryd.ntmps26
  go_wp2_with (first
    | (go_at_call 36; refine (digit_no _ rfl h (by omega) (by omega) hnd).mono ?_; rintro e1 w1 ⟨rfl, r1, s1⟩; obtain ⟨S1, hS1⟩ : ∃ x, x = ({ S with typing := false } : CS) := ⟨_, rfl⟩; rw [← hS1] at r1; have ok1 : S1.Ok := (by (rw [hS1]; exact CS.untyping_ok hok)); have sm1 : S1.Small 1099511000000 := (by (rw [hS1]; exact ⟨hsm.screen, hsm.lines, hsm.line⟩)); have HS := Lib.hid hS1; clear hS1; obtain ⟨-, c1, -, -, -, -, -, -, -, -, fz⟩ := block_cells r1.blk; have hch1 : S1.chosen = 0 := (by (rw [HS.out]; exact hch)); rw [hch1] at c1; have HC := Lib.hid hch1; clear hch1))
  go_ret
  have hbn := HB.out
  have e1 : ({ S with typing := false } : CS).act b = (S1, []) := by rw [← HS.out]; unfold CS.act; rw [if_neg (by omega), if_neg (by omega), if_neg (by omega), if_neg (by omega), if_neg (by omega), if_neg (by omega), if_neg (by have := HC.out; omega), if_neg (by omega)]
  rw [e1]
  exact LinesPost.nil rfl r1 s1

set_option maxHeartbeats 1000000 in
theorem keyT_flag2 (n : Int) (b : UInt8) (hb : (b.toNat : Int) = n) {c : Nat} (hc : g.c = c) (h : Rep g S w) (hok : S.Ok) (hsm : S.Small 1099511000000) (hty : S.typing = true) (hnd : n < 48 ∨ 57 < n) (hn0 : 0 ≤ n) (hn255 : n ≤ 255) (hn : n = 2) (hch : 0 < S.chosen) :
    Calls Tryd.prog 26 #[.pointer (some ⟨c, 0, none⟩), .int .u8 n] w (LinesPost g w (({ S with typing := false } : CS).act b)) := by
  subst hc
  subst hn
  have HB := Lib.hid hb
  clear hb
  obtain ⟨-, -, c2x, -⟩ := block_cells h.blk
  rw [hty] at c2x
  clear hty
  go_enter Tryd.func26, Tryd.ntmps26
  go_wp2_with (first
    | (go_at_call 36; refine (digit_no _ rfl h (by omega) (by omega) hnd).mono ?_; rintro e1 w1 ⟨rfl, r1, s1⟩; obtain ⟨S1, hS1⟩ : ∃ x, x = ({ S with typing := false } : CS) := ⟨_, rfl⟩; rw [← hS1] at r1; have ok1 : S1.Ok := (by (rw [hS1]; exact CS.untyping_ok hok)); have sm1 : S1.Small 1099511000000 := (by (rw [hS1]; exact ⟨hsm.screen, hsm.lines, hsm.line⟩)); have HS := Lib.hid hS1; clear hS1; obtain ⟨-, c1, -, -, -, -, c6, -, -, -, fz⟩ := block_cells r1.blk; have hch1 : 0 < S1.chosen := (by (rw [HS.out]; exact hch)); have hg0 : decide ((0 : Int) < S1.chosen) = true := (by (simp; omega)); have hwf : (Lit.int .i64 S1.chosen).wf = true := wf_i64 (by omega) (by have := ok1.chosen; omega); have hk0 := r1.drew.flags.lookup (P := Tryd.prog) (t := 55) Tryd.underlying3 Tryd.underlying55 (z := .int .i64 0) (by kernel_rfl) hwf; rw [r1.flagsv] at hk0; obtain ⟨w2, hup, m2, hT2, hz2⟩ := r1.drew.flags.update (P := Tryd.prog) (t := 55) Tryd.underlying3 Tryd.underlying55 hwf (.int .i64 (bits .or .i64 (S1.flags S1.chosen) 2)); have pf := r1.drew.put_flag m2 hT2 hz2; have HP := Lib.hid pf; clear pf m2 hT2 hz2))
  refine wp_region_plan (aF := ?aF) [13] [(0, 0), (1, 0), (2, 0), (3, 0), (4, 0), (5, 0), (6, 0), (7, 0), (8, 0), (9, 0), (10, 0), (11, 0), (12, 0), (13, 0)] [w1.drew, w2] [?v0, ?v1, ?v2, ?v3, ?v4, ?v5, ?v6, ?v7, ?v8, ?v9, ?v10, ?v11, .int .i64 (bits .or .i64 (S1.flags S1.chosen) 2), undef] (by kernel_rfl) (by kernel_rfl) ?hF rfl rfl rfl ?hob ?hend
  case hF => simp only [putAll, Act.put]; go_simp; rfl
  case hob =>
    repeat' (first
      | exact obls_nil
      | (refine obls_cons rfl rfl rfl ?_ ?_)
      | (apply Runs.skip rfl rfl; (focus (go_simp; try exact rfl)); exact rfl)
      | (apply Runs.value rfl; (focus (go_simp; try exact rfl)); exact rfl))
  case hend =>
    go_wp2
    go_ret
    have hbn := HB.out
    have e1 : ({ S with typing := false } : CS).act b = ({ S1 with flags := upd S1.flags S1.chosen (orI (S1.flags S1.chosen) 2) }, []) := by rw [← HS.out]; unfold CS.act; rw [if_neg (by omega), if_neg (by omega), if_neg (by omega), if_neg (by omega), if_neg (by omega), if_neg (by omega), if_pos ⟨by omega, by omega, hch1⟩, show flagOf b = 2 from by unfold flagOf; simp [show b.toNat = 2 from by omega]]
    rw [e1]
    exact LinesPost.nil rfl HP.out.1 (s1.drew.trans HP.out.2)

set_option maxHeartbeats 1000000 in
theorem keyT_flag2no (n : Int) (b : UInt8) (hb : (b.toNat : Int) = n) {c : Nat} (hc : g.c = c) (h : Rep g S w) (hok : S.Ok) (hsm : S.Small 1099511000000) (hty : S.typing = true) (hnd : n < 48 ∨ 57 < n) (hn0 : 0 ≤ n) (hn255 : n ≤ 255) (hn : n = 2) (hch : S.chosen = 0) :
    Calls Tryd.prog 26 #[.pointer (some ⟨c, 0, none⟩), .int .u8 n] w (LinesPost g w (({ S with typing := false } : CS).act b)) := by
  subst hc
  subst hn
  have HB := Lib.hid hb
  clear hb
  obtain ⟨-, -, c2x, -⟩ := block_cells h.blk
  rw [hty] at c2x
  clear hty
  go_enter Tryd.func26, Tryd.ntmps26
  go_wp2_with (first
    | (go_at_call 36; refine (digit_no _ rfl h (by omega) (by omega) hnd).mono ?_; rintro e1 w1 ⟨rfl, r1, s1⟩; obtain ⟨S1, hS1⟩ : ∃ x, x = ({ S with typing := false } : CS) := ⟨_, rfl⟩; rw [← hS1] at r1; have ok1 : S1.Ok := (by (rw [hS1]; exact CS.untyping_ok hok)); have sm1 : S1.Small 1099511000000 := (by (rw [hS1]; exact ⟨hsm.screen, hsm.lines, hsm.line⟩)); have HS := Lib.hid hS1; clear hS1; obtain ⟨-, c1, -, -, -, -, -, -, -, -, fz⟩ := block_cells r1.blk; have hch1 : S1.chosen = 0 := (by (rw [HS.out]; exact hch)); rw [hch1] at c1; have HC := Lib.hid hch1; clear hch1))
  go_ret
  have hbn := HB.out
  have e1 : ({ S with typing := false } : CS).act b = (S1, []) := by rw [← HS.out]; unfold CS.act; rw [if_neg (by omega), if_neg (by omega), if_neg (by omega), if_neg (by omega), if_neg (by omega), if_neg (by omega), if_neg (by have := HC.out; omega), if_neg (by omega)]
  rw [e1]
  exact LinesPost.nil rfl r1 s1

set_option maxHeartbeats 1000000 in
theorem keyT_flag3 (n : Int) (b : UInt8) (hb : (b.toNat : Int) = n) {c : Nat} (hc : g.c = c) (h : Rep g S w) (hok : S.Ok) (hsm : S.Small 1099511000000) (hty : S.typing = true) (hnd : n < 48 ∨ 57 < n) (hn0 : 0 ≤ n) (hn255 : n ≤ 255) (hn : n = 3) (hch : 0 < S.chosen) :
    Calls Tryd.prog 26 #[.pointer (some ⟨c, 0, none⟩), .int .u8 n] w (LinesPost g w (({ S with typing := false } : CS).act b)) := by
  subst hc
  subst hn
  have HB := Lib.hid hb
  clear hb
  obtain ⟨-, -, c2x, -⟩ := block_cells h.blk
  rw [hty] at c2x
  clear hty
  go_enter Tryd.func26, Tryd.ntmps26
  go_wp2_with (first
    | (go_at_call 36; refine (digit_no _ rfl h (by omega) (by omega) hnd).mono ?_; rintro e1 w1 ⟨rfl, r1, s1⟩; obtain ⟨S1, hS1⟩ : ∃ x, x = ({ S with typing := false } : CS) := ⟨_, rfl⟩; rw [← hS1] at r1; have ok1 : S1.Ok := (by (rw [hS1]; exact CS.untyping_ok hok)); have sm1 : S1.Small 1099511000000 := (by (rw [hS1]; exact ⟨hsm.screen, hsm.lines, hsm.line⟩)); have HS := Lib.hid hS1; clear hS1; obtain ⟨-, c1, -, -, -, -, c6, -, -, -, fz⟩ := block_cells r1.blk; have hch1 : 0 < S1.chosen := (by (rw [HS.out]; exact hch)); have hg0 : decide ((0 : Int) < S1.chosen) = true := (by (simp; omega)); have hwf : (Lit.int .i64 S1.chosen).wf = true := wf_i64 (by omega) (by have := ok1.chosen; omega); have hk0 := r1.drew.flags.lookup (P := Tryd.prog) (t := 55) Tryd.underlying3 Tryd.underlying55 (z := .int .i64 0) (by kernel_rfl) hwf; rw [r1.flagsv] at hk0; obtain ⟨w2, hup, m2, hT2, hz2⟩ := r1.drew.flags.update (P := Tryd.prog) (t := 55) Tryd.underlying3 Tryd.underlying55 hwf (.int .i64 (bits .or .i64 (S1.flags S1.chosen) 4)); have pf := r1.drew.put_flag m2 hT2 hz2; have HP := Lib.hid pf; clear pf m2 hT2 hz2))
  refine wp_region_plan (aF := ?aF) [13] [(0, 0), (1, 0), (2, 0), (3, 0), (4, 0), (5, 0), (6, 0), (7, 0), (8, 0), (9, 0), (10, 0), (11, 0), (12, 0), (13, 0)] [w1.drew, w2] [?v0, ?v1, ?v2, ?v3, ?v4, ?v5, ?v6, ?v7, ?v8, ?v9, ?v10, ?v11, .int .i64 (bits .or .i64 (S1.flags S1.chosen) 4), undef] (by kernel_rfl) (by kernel_rfl) ?hF rfl rfl rfl ?hob ?hend
  case hF => simp only [putAll, Act.put]; go_simp; rfl
  case hob =>
    repeat' (first
      | exact obls_nil
      | (refine obls_cons rfl rfl rfl ?_ ?_)
      | (apply Runs.skip rfl rfl; (focus (go_simp; try exact rfl)); exact rfl)
      | (apply Runs.value rfl; (focus (go_simp; try exact rfl)); exact rfl))
  case hend =>
    go_wp2
    go_ret
    have hbn := HB.out
    have e1 : ({ S with typing := false } : CS).act b = ({ S1 with flags := upd S1.flags S1.chosen (orI (S1.flags S1.chosen) 4) }, []) := by rw [← HS.out]; unfold CS.act; rw [if_neg (by omega), if_neg (by omega), if_neg (by omega), if_neg (by omega), if_neg (by omega), if_neg (by omega), if_pos ⟨by omega, by omega, hch1⟩, show flagOf b = 4 from by unfold flagOf; simp [show b.toNat = 3 from by omega]]
    rw [e1]
    exact LinesPost.nil rfl HP.out.1 (s1.drew.trans HP.out.2)

set_option maxHeartbeats 1000000 in
theorem keyT_flag3no (n : Int) (b : UInt8) (hb : (b.toNat : Int) = n) {c : Nat} (hc : g.c = c) (h : Rep g S w) (hok : S.Ok) (hsm : S.Small 1099511000000) (hty : S.typing = true) (hnd : n < 48 ∨ 57 < n) (hn0 : 0 ≤ n) (hn255 : n ≤ 255) (hn : n = 3) (hch : S.chosen = 0) :
    Calls Tryd.prog 26 #[.pointer (some ⟨c, 0, none⟩), .int .u8 n] w (LinesPost g w (({ S with typing := false } : CS).act b)) := by
  subst hc
  subst hn
  have HB := Lib.hid hb
  clear hb
  obtain ⟨-, -, c2x, -⟩ := block_cells h.blk
  rw [hty] at c2x
  clear hty
  go_enter Tryd.func26, Tryd.ntmps26
  go_wp2_with (first
    | (go_at_call 36; refine (digit_no _ rfl h (by omega) (by omega) hnd).mono ?_; rintro e1 w1 ⟨rfl, r1, s1⟩; obtain ⟨S1, hS1⟩ : ∃ x, x = ({ S with typing := false } : CS) := ⟨_, rfl⟩; rw [← hS1] at r1; have ok1 : S1.Ok := (by (rw [hS1]; exact CS.untyping_ok hok)); have sm1 : S1.Small 1099511000000 := (by (rw [hS1]; exact ⟨hsm.screen, hsm.lines, hsm.line⟩)); have HS := Lib.hid hS1; clear hS1; obtain ⟨-, c1, -, -, -, -, -, -, -, -, fz⟩ := block_cells r1.blk; have hch1 : S1.chosen = 0 := (by (rw [HS.out]; exact hch)); rw [hch1] at c1; have HC := Lib.hid hch1; clear hch1))
  go_ret
  have hbn := HB.out
  have e1 : ({ S with typing := false } : CS).act b = (S1, []) := by rw [← HS.out]; unfold CS.act; rw [if_neg (by omega), if_neg (by omega), if_neg (by omega), if_neg (by omega), if_neg (by omega), if_neg (by omega), if_neg (by have := HC.out; omega), if_neg (by omega)]
  rw [e1]
  exact LinesPost.nil rfl r1 s1

set_option maxHeartbeats 1000000 in
theorem keyT_flag4 (n : Int) (b : UInt8) (hb : (b.toNat : Int) = n) {c : Nat} (hc : g.c = c) (h : Rep g S w) (hok : S.Ok) (hsm : S.Small 1099511000000) (hty : S.typing = true) (hnd : n < 48 ∨ 57 < n) (hn0 : 0 ≤ n) (hn255 : n ≤ 255) (hn : n = 4) (hch : 0 < S.chosen) :
    Calls Tryd.prog 26 #[.pointer (some ⟨c, 0, none⟩), .int .u8 n] w (LinesPost g w (({ S with typing := false } : CS).act b)) := by
  subst hc
  subst hn
  have HB := Lib.hid hb
  clear hb
  obtain ⟨-, -, c2x, -⟩ := block_cells h.blk
  rw [hty] at c2x
  clear hty
  go_enter Tryd.func26, Tryd.ntmps26
  go_wp2_with (first
    | (go_at_call 36; refine (digit_no _ rfl h (by omega) (by omega) hnd).mono ?_; rintro e1 w1 ⟨rfl, r1, s1⟩; obtain ⟨S1, hS1⟩ : ∃ x, x = ({ S with typing := false } : CS) := ⟨_, rfl⟩; rw [← hS1] at r1; have ok1 : S1.Ok := (by (rw [hS1]; exact CS.untyping_ok hok)); have sm1 : S1.Small 1099511000000 := (by (rw [hS1]; exact ⟨hsm.screen, hsm.lines, hsm.line⟩)); have HS := Lib.hid hS1; clear hS1; obtain ⟨-, c1, -, -, -, -, c6, -, -, -, fz⟩ := block_cells r1.blk; have hch1 : 0 < S1.chosen := (by (rw [HS.out]; exact hch)); have hg0 : decide ((0 : Int) < S1.chosen) = true := (by (simp; omega)); have hwf : (Lit.int .i64 S1.chosen).wf = true := wf_i64 (by omega) (by have := ok1.chosen; omega); have hk0 := r1.drew.flags.lookup (P := Tryd.prog) (t := 55) Tryd.underlying3 Tryd.underlying55 (z := .int .i64 0) (by kernel_rfl) hwf; rw [r1.flagsv] at hk0; obtain ⟨w2, hup, m2, hT2, hz2⟩ := r1.drew.flags.update (P := Tryd.prog) (t := 55) Tryd.underlying3 Tryd.underlying55 hwf (.int .i64 (bits .or .i64 (S1.flags S1.chosen) 8)); have pf := r1.drew.put_flag m2 hT2 hz2; have HP := Lib.hid pf; clear pf m2 hT2 hz2))
  refine wp_region_plan (aF := ?aF) [13] [(0, 0), (1, 0), (2, 0), (3, 0), (4, 0), (5, 0), (6, 0), (7, 0), (8, 0), (9, 0), (10, 0), (11, 0), (12, 0), (13, 0)] [w1.drew, w2] [?v0, ?v1, ?v2, ?v3, ?v4, ?v5, ?v6, ?v7, ?v8, ?v9, ?v10, ?v11, .int .i64 (bits .or .i64 (S1.flags S1.chosen) 8), undef] (by kernel_rfl) (by kernel_rfl) ?hF rfl rfl rfl ?hob ?hend
  case hF => simp only [putAll, Act.put]; go_simp; rfl
  case hob =>
    repeat' (first
      | exact obls_nil
      | (refine obls_cons rfl rfl rfl ?_ ?_)
      | (apply Runs.skip rfl rfl; (focus (go_simp; try exact rfl)); exact rfl)
      | (apply Runs.value rfl; (focus (go_simp; try exact rfl)); exact rfl))
  case hend =>
    go_wp2
    go_ret
    have hbn := HB.out
    have e1 : ({ S with typing := false } : CS).act b = ({ S1 with flags := upd S1.flags S1.chosen (orI (S1.flags S1.chosen) 8) }, []) := by rw [← HS.out]; unfold CS.act; rw [if_neg (by omega), if_neg (by omega), if_neg (by omega), if_neg (by omega), if_neg (by omega), if_neg (by omega), if_pos ⟨by omega, by omega, hch1⟩, show flagOf b = 8 from by unfold flagOf; simp [show b.toNat = 4 from by omega]]
    rw [e1]
    exact LinesPost.nil rfl HP.out.1 (s1.drew.trans HP.out.2)

set_option maxHeartbeats 1000000 in
theorem keyT_flag4no (n : Int) (b : UInt8) (hb : (b.toNat : Int) = n) {c : Nat} (hc : g.c = c) (h : Rep g S w) (hok : S.Ok) (hsm : S.Small 1099511000000) (hty : S.typing = true) (hnd : n < 48 ∨ 57 < n) (hn0 : 0 ≤ n) (hn255 : n ≤ 255) (hn : n = 4) (hch : S.chosen = 0) :
    Calls Tryd.prog 26 #[.pointer (some ⟨c, 0, none⟩), .int .u8 n] w (LinesPost g w (({ S with typing := false } : CS).act b)) := by
  subst hc
  subst hn
  have HB := Lib.hid hb
  clear hb
  obtain ⟨-, -, c2x, -⟩ := block_cells h.blk
  rw [hty] at c2x
  clear hty
  go_enter Tryd.func26, Tryd.ntmps26
  go_wp2_with (first
    | (go_at_call 36; refine (digit_no _ rfl h (by omega) (by omega) hnd).mono ?_; rintro e1 w1 ⟨rfl, r1, s1⟩; obtain ⟨S1, hS1⟩ : ∃ x, x = ({ S with typing := false } : CS) := ⟨_, rfl⟩; rw [← hS1] at r1; have ok1 : S1.Ok := (by (rw [hS1]; exact CS.untyping_ok hok)); have sm1 : S1.Small 1099511000000 := (by (rw [hS1]; exact ⟨hsm.screen, hsm.lines, hsm.line⟩)); have HS := Lib.hid hS1; clear hS1; obtain ⟨-, c1, -, -, -, -, -, -, -, -, fz⟩ := block_cells r1.blk; have hch1 : S1.chosen = 0 := (by (rw [HS.out]; exact hch)); rw [hch1] at c1; have HC := Lib.hid hch1; clear hch1))
  go_ret
  have hbn := HB.out
  have e1 : ({ S with typing := false } : CS).act b = (S1, []) := by rw [← HS.out]; unfold CS.act; rw [if_neg (by omega), if_neg (by omega), if_neg (by omega), if_neg (by omega), if_neg (by omega), if_neg (by omega), if_neg (by have := HC.out; omega), if_neg (by omega)]
  rw [e1]
  exact LinesPost.nil rfl r1 s1

set_option maxHeartbeats 1000000 in
theorem keyT_choose (n : Int) (b : UInt8) (hb : (b.toNat : Int) = n) {c : Nat} (hc : g.c = c) (h : Rep g S w) (hok : S.Ok) (hsm : S.Small 1099511000000) (hty : S.typing = true) (hnd : n < 48 ∨ 57 < n) (hn0 : 0 ≤ n) (hn255 : n ≤ 255) (hn : n = 20) :
    Calls Tryd.prog 26 #[.pointer (some ⟨c, 0, none⟩), .int .u8 n] w (LinesPost g w (({ S with typing := false } : CS).act b)) := by
  subst hc
  subst hn
  have HB := Lib.hid hb
  clear hb
  obtain ⟨-, -, c2x, -⟩ := block_cells h.blk
  rw [hty] at c2x
  clear hty
  go_enter Tryd.func26, Tryd.ntmps26
  go_wp2_with (first
    | (go_at_call 36; refine (digit_no _ rfl h (by omega) (by omega) hnd).mono ?_; rintro e1 w1 ⟨rfl, r1, s1⟩; obtain ⟨S1, hS1⟩ : ∃ x, x = ({ S with typing := false } : CS) := ⟨_, rfl⟩; rw [← hS1] at r1; have ok1 : S1.Ok := (by (rw [hS1]; exact CS.untyping_ok hok)); have sm1 : S1.Small 1099511000000 := (by (rw [hS1]; exact ⟨hsm.screen, hsm.lines, hsm.line⟩)); have HS := Lib.hid hS1; clear hS1; obtain ⟨-, -, c2, c3, -, -, -, -, -, -, fz⟩ := block_cells r1.blk))
  go_ret
  have hbn := HB.out
  have e1 : ({ S with typing := false } : CS).act b = ({ S1 with typing := true, digits := 0 }, []) := by rw [← HS.out]; unfold CS.act; rw [if_neg (by omega), if_neg (by omega), if_neg (by omega), if_neg (by omega), if_neg (by omega), if_neg (by omega), if_neg (by omega), if_pos (by omega)]
  rw [e1]
  have r2 := (r1.set_typing true).set_digits 0
  exact LinesPost.nil rfl r2 ((r1.set_typing true).step_set' (r1.step_set' s1 _ _) _ _)

set_option maxHeartbeats 1000000 in
theorem keyT_zero (n : Int) (b : UInt8) (hb : (b.toNat : Int) = n) {c : Nat} (hc : g.c = c) (h : Rep g S w) (hok : S.Ok) (hsm : S.Small 1099511000000) (hty : S.typing = true) (hnd : n < 48 ∨ 57 < n) (hn0 : 0 ≤ n) (hn255 : n ≤ 255) (hn : n = 0) :
    Calls Tryd.prog 26 #[.pointer (some ⟨c, 0, none⟩), .int .u8 n] w (LinesPost g w (({ S with typing := false } : CS).act b)) := by
  subst hc
  subst hn
  have HB := Lib.hid hb
  clear hb
  obtain ⟨-, -, c2x, -⟩ := block_cells h.blk
  rw [hty] at c2x
  clear hty
  go_enter Tryd.func26, Tryd.ntmps26
  go_wp2_with (first
    | (go_at_call 36; refine (digit_no _ rfl h (by omega) (by omega) hnd).mono ?_; rintro e1 w1 ⟨rfl, r1, s1⟩; obtain ⟨S1, hS1⟩ : ∃ x, x = ({ S with typing := false } : CS) := ⟨_, rfl⟩; rw [← hS1] at r1; have ok1 : S1.Ok := (by (rw [hS1]; exact CS.untyping_ok hok)); have sm1 : S1.Small 1099511000000 := (by (rw [hS1]; exact ⟨hsm.screen, hsm.lines, hsm.line⟩)); have HS := Lib.hid hS1; clear hS1))
  go_ret
  have hbn := HB.out
  have e1 : ({ S with typing := false } : CS).act b = (S1, []) := by rw [← HS.out]; unfold CS.act; rw [if_neg (by omega), if_neg (by omega), if_neg (by omega), if_neg (by omega), if_neg (by omega), if_neg (by omega), if_neg (by omega), if_neg (by omega)]
  rw [e1]
  exact LinesPost.nil rfl r1 s1

set_option maxHeartbeats 1000000 in
theorem keyT_low (n : Int) (b : UInt8) (hb : (b.toNat : Int) = n) {c : Nat} (hc : g.c = c) (h : Rep g S w) (hok : S.Ok) (hsm : S.Small 1099511000000) (hty : S.typing = true) (hnd : n < 48 ∨ 57 < n) (hn0 : 0 ≤ n) (hn255 : n ≤ 255) (h1 : 5 ≤ n) (h2 : n ≤ 31) (h10 : n ≠ 10) (h21 : n ≠ 21) (h18 : n ≠ 18) (h16 : n ≠ 16) (h20 : n ≠ 20) :
    Calls Tryd.prog 26 #[.pointer (some ⟨c, 0, none⟩), .int .u8 n] w (LinesPost g w (({ S with typing := false } : CS).act b)) := by
  subst hc
  have HB := Lib.hid hb
  clear hb
  obtain ⟨-, -, c2x, -⟩ := block_cells h.blk
  rw [hty] at c2x
  clear hty
  go_enter Tryd.func26, Tryd.ntmps26
  go_wp2_with (first
    | (go_at_call 36; refine (digit_no _ rfl h (by omega) (by omega) hnd).mono ?_; rintro e1 w1 ⟨rfl, r1, s1⟩; obtain ⟨S1, hS1⟩ : ∃ x, x = ({ S with typing := false } : CS) := ⟨_, rfl⟩; rw [← hS1] at r1; have ok1 : S1.Ok := (by (rw [hS1]; exact CS.untyping_ok hok)); have sm1 : S1.Small 1099511000000 := (by (rw [hS1]; exact ⟨hsm.screen, hsm.lines, hsm.line⟩)); have HS := Lib.hid hS1; clear hS1; have q10 : (n == 10) = false := (by simpa using h10); have q21 : (n == 21) = false := (by simpa using h21); have q18 : (n == 18) = false := (by simpa using h18); have q16 : (n == 16) = false := (by simpa using h16); have q20 : (n == 20) = false := (by simpa using h20)))
  go_ret
  have hbn := HB.out
  have e1 : ({ S with typing := false } : CS).act b = (S1, []) := by rw [← HS.out]; unfold CS.act; rw [if_neg (by omega), if_neg (by omega), if_neg (by omega), if_neg (by omega), if_neg (by omega), if_neg (by omega), if_neg (by omega), if_neg (by omega)]
  rw [e1]
  exact LinesPost.nil rfl r1 s1

set_option maxHeartbeats 1000000 in
theorem keyT_high (n : Int) (b : UInt8) (hb : (b.toNat : Int) = n) {c : Nat} (hc : g.c = c) (h : Rep g S w) (hok : S.Ok) (hsm : S.Small 1099511000000) (hty : S.typing = true) (hnd : n < 48 ∨ 57 < n) (hn0 : 0 ≤ n) (hn255 : n ≤ 255) (h1 : 128 ≤ n) :
    Calls Tryd.prog 26 #[.pointer (some ⟨c, 0, none⟩), .int .u8 n] w (LinesPost g w (({ S with typing := false } : CS).act b)) := by
  subst hc
  have HB := Lib.hid hb
  clear hb
  obtain ⟨-, -, c2x, -⟩ := block_cells h.blk
  rw [hty] at c2x
  clear hty
  go_enter Tryd.func26, Tryd.ntmps26
  go_wp2_with (first
    | (go_at_call 36; refine (digit_no _ rfl h (by omega) (by omega) hnd).mono ?_; rintro e1 w1 ⟨rfl, r1, s1⟩; obtain ⟨S1, hS1⟩ : ∃ x, x = ({ S with typing := false } : CS) := ⟨_, rfl⟩; rw [← hS1] at r1; have ok1 : S1.Ok := (by (rw [hS1]; exact CS.untyping_ok hok)); have sm1 : S1.Small 1099511000000 := (by (rw [hS1]; exact ⟨hsm.screen, hsm.lines, hsm.line⟩)); have HS := Lib.hid hS1; clear hS1))
  go_ret
  have hbn := HB.out
  have e1 : ({ S with typing := false } : CS).act b = (S1, []) := by rw [← HS.out]; unfold CS.act; rw [if_neg (by omega), if_neg (by omega), if_neg (by omega), if_neg (by omega), if_neg (by omega), if_neg (by omega), if_neg (by omega), if_neg (by omega)]
  rw [e1]
  exact LinesPost.nil rfl r1 s1
end
end Go.Con
