/-
  The reference's console: start, echo, rub, digit, walked.
-/
import Derived.Test.YtjdafmpkobelcaaDoorQRefRep
set_option linter.unusedVariables false

namespace Go.Con
open Go.Own Go.RowKit Go.Proofs

section
variable {r : RG} {S : CS} {w w' : World}

theorem rblock {c : Nat} (hb : w.heap[c]? = some (.cells (rcells r S) 48 (0, 0))) :
    w.cell? ⟨c, 0, none⟩ = some r.g.tv ∧ w.cell? ⟨c, 1, none⟩ = some (.int .i64 (if r.bg = true then S.chosen else 0)) ∧ w.cell? ⟨c, 2, none⟩ = some (.int .i64 (if r.bg = true then (if S.typing = true then S.digits else -1) else 0)) ∧
    w.cell? ⟨c, 3, none⟩ = some r.wv ∧ w.cell? ⟨c, 204, none⟩ = some (.int .i64 (if r.bg = true then S.last else 0)) ∧ w.cell? ⟨c, 205, none⟩ = some r.g.sv ∧ w.cell? ⟨c, 206, none⟩ = some (.bool r.bg) ∧ (∀ i, w.frozen? ⟨c, i, none⟩ = false) :=
  ⟨rblock_cells hb 0 (by omega), rblock_cells hb 1 (by omega), rblock_cells hb 2 (by omega), rblock_cells hb 3 (by omega), rblock_cells hb 204 (by omega), rblock_cells hb 205 (by omega), rblock_cells hb 206 (by omega), fun _ => frozen_at hb⟩

set_option maxHeartbeats 400000 in
theorem recho_calls (s : Bytes) {c : Nat} (hc : r.g.c = c) (h : RRep r S w) (a : Option Addr) (n cap : Nat) (hx : Src w 1 (.slice a n cap) n (bcells s)) (hs : S.screen.length + s.length ≤ 1099511627776) :
    Calls Tryd.prog 43 #[.pointer (some ⟨c, 0, none⟩), .slice a n cap] w fun e w' => e = .returned (.tuple #[]) ∧ ∃ r', RRep r' (S.echo s) w' ∧ Step r.g r'.g w w' ∧ (r'.bg = r.bg ∧ r'.wt = r.wt) := by
  subst hc
  obtain ⟨-, -, -, -, -, c9, -, fz⟩ := rblock h.blk
  have hne := Lib.hid h.screen_ne
  have HX := Lib.hid hx
  clear hx
  go_enter Tryd.func43, Tryd.ntmps43
  go_wp2_with (at_builtin; refine wpList_append w rfl _ _ 26 26 rfl 5 1 1 (.int .u8 0) Tryd.underlying26 (.inr ⟨_, Tryd.underlying26⟩) elemU8 r.g.sv _ rfl h.screen.1 _ _ _ rfl HX.out (bcells_one _) (by rw [bcells_length, bcells_length]; omega) (by rw [bcells_length, bcells_length]; omega) ?_; intro v' w1 hv' ht hw hn; clear hn; obtain ⟨pa, pn, pc, rfl, -⟩ := hv'.form
               have hb1 := h.block_after ht hne.out
               obtain ⟨-, -, -, -, -, d9, -, fz1⟩ := rblock hb1)
  go_end0
  rw [← bcells_append] at hv'
  obtain ⟨a1, b1⟩ := h.append_screen ht hv' hw
  exact ⟨rfl, _, a1, b1, rfl, rfl⟩

theorem rrub_calls {c : Nat} (hc : r.g.c = c) (h : RRep r S w) (hs : S.screen.length ≤ 1099511620000) :
    Calls Tryd.prog 45 #[.pointer (some ⟨c, 0, none⟩)] w fun e w' => e = .returned (.tuple #[]) ∧ ∃ r', RRep r' (S.echo [8, 32, 8]) w' ∧ Step r.g r'.g w w' ∧ (r'.bg = r.bg ∧ r'.wt = r.wt) := by
  subst hc
  have h1 := h.alloc (.cells #[.int .u8 8, .int .u8 32, .int .u8 8] 5)
  have s1 := (Step.refl r.g w).alloc (.cells #[.int .u8 8, .int .u8 32, .int .u8 8] 5)
  have sm := SliceAt.made (w := w.alloc (.cells #[.int .u8 8, .int .u8 32, .int .u8 8] 5)) (sz := 1) (n := 3) (heap_alloc_new w _) rfl (by unfold maxLen; omega)
  have HS := Lib.hid sm
  clear sm
  go_enter Tryd.func45, Tryd.ntmps45
  go_wp2_with (go_at_call 43; refine (recho_calls [8, 32, 8] rfl h1 _ _ _ (Src.of_slice HS.out) (by simp; omega)).mono ?_; rintro e w1 ⟨rfl, r2, h2, s2, b2⟩)
  go_end0
  exact ⟨rfl, r2, h2, s1.trans s2, b2⟩

theorem rstart_calls {c : Nat} (hc : r.g.c = c) (h : RRep r S w) :
    Calls Tryd.prog 33 #[.pointer (some ⟨c, 0, none⟩)] w fun e w' => e = .returned (.tuple #[]) ∧ RRep { r with bg := true } S w' ∧ Step r.g r.g w w' := by
  subst hc
  obtain ⟨-, c1, c2, -, c4, -, c6, fz⟩ := rblock h.blk
  by_cases hb : r.bg = true
  · rw [hb] at c6
    have HB := Lib.hid hb
    clear hb c1 c2 c4
    go_enter Tryd.func33, Tryd.ntmps33
    go_wp2
    go_end0
    refine ⟨rfl, ?_, Step.refl _ _⟩
    have e : ({ r with bg := true } : RG) = r := by rw [← HB.out]
    rw [e]; exact h
  · have hb' : r.bg = false := by simpa using hb
    obtain ⟨k1, k2, k3⟩ := h.nb hb'
    rw [hb'] at c6 c1 c2 c4
    have HB := Lib.hid (And.intro hb' (And.intro k1 (And.intro k2 k3)))
    rw [if_neg (by decide)] at c1 c2 c4
    clear hb hb' k1 k2 k3
    go_enter Tryd.func33, Tryd.ntmps33
    go_wp2
    go_end0
    obtain ⟨hb', k1, k2, k3⟩ := HB.out
    refine ⟨rfl, ?_, ?_⟩
    · have hbk := h.blk
      have t0 : Turn (fun k => k = r.g.c ∨ r.g.ρ k = (0, 0)) w ((((w.setCell ⟨r.g.c, 206, none⟩ (.bool true)).setCell ⟨r.g.c, 1, none⟩ (.int .i64 1)).setCell ⟨r.g.c, 2, none⟩ (.int .i64 (-1))).setCell ⟨r.g.c, 204, none⟩ (.int .i64 1)) :=
        ((((Turn.refl _ w).setCell (fun _ => .inl rfl) _).setCell (fun _ => .inl rfl) _).setCell (fun _ => .inl rfl) _).setCell (fun _ => .inl rfl) _
      refine h.block (0, 0) t0 (fun _ _ => rfl) (by simpa using h.fresh) rfl ?_ (.inl ⟨by decide, rfl, rfl⟩) (.inl ⟨by decide, rfl, rfl⟩) (.inl ⟨by decide, rfl, rfl⟩) (fun k => .inl ⟨(by intro e; cases e), rfl, rfl⟩) h.lines (fun _ ht => by rw [k2] at ht; cases ht) (fun e => by cases e)
      rw [heap_setCell_self _ (heap_setCell_self _ (heap_setCell_self _ (heap_setCell_self _ hbk)))]
      refine congrArg (fun x => some (Obj.cells x 48 (0, 0))) ?_
      apply Array.ext_getElem?
      intro j
      simp only [Array.getElem?_setIfInBounds, Array.size_setIfInBounds]
      have hz : (rcells r S).size = 207 := by simp [rcells]
      rw [hz]
      by_cases hj : j < 207
      · rw [rcells_get _ _ _ hj, rcells_get _ _ _ hj]
        by_cases j1 : j = 1
        · subst j1; simp [rcell, k1]
        by_cases j2 : j = 2
        · subst j2; simp [rcell, k2]
        by_cases j4 : j = 204
        · subst j4; simp [rcell, k3]
        by_cases j6 : j = 206
        · subst j6; simp [rcell]
        rw [if_neg (by omega), if_neg (by omega), if_neg (by omega), if_neg (by omega)]
        unfold rcell
        simp only [if_neg j1, if_neg j2, if_neg j4]
        by_cases j5 : j = 205
        · simp [j5]
        by_cases j3 : j < 204
        · simp only [if_pos j3]
        · omega
      · rw [if_neg (by omega), if_neg (by omega), if_neg (by omega), if_neg (by omega), Array.getElem?_eq_none (by rw [hz]; omega), Array.getElem?_eq_none (by simp [rcells]; omega)]
    · have hc : (r.g.ρ r.g.c).1 ≠ 0 := by rw [h.tc]; decide
      exact ⟨((((Turn.refl _ w).setCell (fun _ => hc) _).setCell (fun _ => hc) _).setCell (fun _ => hc) _).setCell (fun _ => hc) _, fun _ _ => rfl, rfl⟩

/-- No digits are awaited. -/
theorem rdigit_off (n : Int) {c : Nat} (hc : r.g.c = c) (h : RRep r S w) (hb : r.bg = true) (ht : S.typing = false) :
    Calls Tryd.prog 42 #[.pointer (some ⟨c, 0, none⟩), .int .u8 n] w fun e w' => e = .returned (.bool false) ∧ w' = w := by
  subst hc
  obtain ⟨-, -, c2, -, -, -, -, fz⟩ := rblock h.blk
  rw [if_pos hb, if_neg (by rw [ht]; decide)] at c2
  clear hb ht
  go_enter Tryd.func42, Tryd.ntmps42
  go_wp2
  go_ret
  exact ⟨rfl, rfl⟩

theorem RRep.set_untyping (h : RRep r S w) (hb : r.bg = true) : RRep r { S with typing := false } (w.setCell ⟨r.g.c, 2, none⟩ (.int .i64 (-1))) ∧ Step r.g r.g w (w.setCell ⟨r.g.c, 2, none⟩ (.int .i64 (-1))) :=
  h.scalar (r' := r) (S' := { S with typing := false }) 2 _ rfl ⟨rfl, rfl, rfl⟩ ⟨rfl, rfl, rfl, rfl⟩ (by simp [rcell, hb]) (fun j hj => by unfold rcell; simp only [if_neg hj]) (fun _ e => by cases e) (fun e => by rw [hb] at e; cases e)

/-- A byte that is no digit. -/
theorem rdigit_no (n : Int) {c : Nat} (hc : r.g.c = c) (h : RRep r S w) (hb : r.bg = true) (ht : S.typing = true) (hd0 : 0 ≤ S.digits) (h0 : 0 ≤ n) (h1 : n ≤ 255) (hn : n < 48 ∨ 57 < n) :
    Calls Tryd.prog 42 #[.pointer (some ⟨c, 0, none⟩), .int .u8 n] w fun e w' => e = .returned (.bool false) ∧ RRep r { S with typing := false } w' ∧ Step r.g r.g w w' := by
  subst hc
  obtain ⟨-, -, c2, -, -, -, -, fz⟩ := rblock h.blk
  rw [if_pos hb, if_pos ht] at c2
  have HB := Lib.hid hb
  have hg : ¬ S.digits < 0 := by omega
  clear hb ht
  rcases hn with hn | hn
  · go_enter Tryd.func42, Tryd.ntmps42
    go_wp2
    go_ret
    exact ⟨rfl, h.set_untyping HB.out⟩
  · have hn' : ¬ n < 48 := by omega
    go_enter Tryd.func42, Tryd.ntmps42
    go_wp2
    go_ret
    exact ⟨rfl, h.set_untyping HB.out⟩

def RDigitPost (r : RG) (R : CS) (w : World) (e : Ending) (w' : World) : Prop := e = .returned (.bool true) ∧ RRep r R w' ∧ Step r.g r.g w w'

/-- Two cells are written. -/
theorem RRep.two_set (h : RRep r S w) (hb : r.bg = true) (x y : Int) (S' : CS) (hS : S'.typed = S.typed ∧ S'.screen = S.screen ∧ S'.out = S.out ∧ S'.lines = S.lines ∧ S'.flags = S.flags ∧ S'.last = S.last)
    (hx : S'.chosen = x) (hy : (if S'.typing = true then S'.digits else -1) = y) (hn : S'.typing = true → S'.digits ≠ 0 → S'.chosen = S'.number) :
    RRep r S' ((w.setCell ⟨r.g.c, 1, none⟩ (.int .i64 x)).setCell ⟨r.g.c, 2, none⟩ (.int .i64 y)) ∧ Step r.g r.g w ((w.setCell ⟨r.g.c, 1, none⟩ (.int .i64 x)).setCell ⟨r.g.c, 2, none⟩ (.int .i64 y)) := by
  obtain ⟨s1, s2, s3, s4, s5, s6⟩ := hS
  have hc : (r.g.ρ r.g.c).1 ≠ 0 := by rw [h.tc]; decide
  refine ⟨h.block (0, 0) (((Turn.refl _ w).setCell (fun _ => .inl rfl) _).setCell (fun _ => .inl rfl) _) (fun _ _ => rfl) (by simpa using h.fresh) rfl ?_ (.inl ⟨by decide, rfl, s1⟩) (.inl ⟨by decide, rfl, s2⟩) (.inl ⟨by decide, rfl, rfl⟩) (fun k => .inl ⟨(by intro e; cases e), rfl, by rw [s3]⟩) (fun k => by rw [s4]; exact h.lines k) (fun _ => hn) (fun e => by rw [hb] at e; cases e), ⟨((Turn.refl _ w).setCell (fun _ => hc) _).setCell (fun _ => hc) _, fun _ _ => rfl, rfl⟩⟩
  rw [heap_setCell_self _ (heap_setCell_self _ h.blk)]
  refine congrArg (fun x => some (Obj.cells x 48 (0, 0))) ?_
  apply Array.ext_getElem?
  intro j
  simp only [Array.getElem?_setIfInBounds, Array.size_setIfInBounds]
  have hz : (rcells r S).size = 207 := by simp [rcells]
  rw [hz]
  by_cases hj : j < 207
  · rw [rcells_get _ _ _ hj, rcells_get _ _ _ hj]
    by_cases j1 : j = 1
    · subst j1; simp [rcell, hb, hx]
    by_cases j2 : j = 2
    · subst j2; simp [rcell, hb, hy]
    rw [if_neg (by omega), if_neg (by omega)]
    unfold rcell
    simp only [if_neg j1, if_neg j2, s5, s6]
  · rw [if_neg (by omega), if_neg (by omega), Array.getElem?_eq_none (by rw [hz]; omega), Array.getElem?_eq_none (by simp [rcells]; omega)]

theorem rdigit_yes (b : UInt8) (n : Int) (hbn : (b.toNat : Int) = n) {c : Nat} (hc : r.g.c = c) (h : RRep r S w) (hb : r.bg = true) (ht : S.typing = true) (h0 : 48 ≤ n) (h1 : n ≤ 57) (hok : S.Ok) :
    Calls Tryd.prog 42 #[.pointer (some ⟨c, 0, none⟩), .int .u8 n] w (RDigitPost r (S.digit b) w) := by
  subst hc
  obtain ⟨-, c1, c2, -, -, -, -, fz⟩ := rblock h.blk
  rw [if_pos hb, if_pos ht] at c2
  rw [if_pos hb] at c1
  have d0 := hok.digits0
  have d1 := hok.typing ht
  have k0 := hok.chosen0
  have k1 := hok.chosen
  have htwo := Lib.hid (h.two hb ht)
  have HB := Lib.hid (And.intro hb (And.intro ht hbn))
  clear hb ht hbn
  have g0 : ¬ S.digits < 0 := by omega
  have g1 : ¬ n < 48 := by omega
  have g2 : ¬ 57 < n := by omega
  by_cases hz : S.digits = 0
  · rw [hz] at c2
    have HZ := Lib.hid hz
    clear hz g0
    go_enter Tryd.func42, Tryd.ntmps42
    go_wp2
    go_ret
    have e1 : S.num b = n - 48 := by unfold CS.num; rw [if_pos HZ.out, HB.out.2.2]; omega
    have e2 : (S.digit b).typing = true := by show decide (S.digits + 1 < 2) = true; rw [HZ.out]; decide
    have e3 : (S.digit b).digits = 1 := by show S.digits + 1 = 1; rw [HZ.out]; rfl
    exact ⟨rfl, h.two_set HB.out.1 (n - 48) 1 (S.digit b) ⟨rfl, rfl, rfl, rfl, rfl, rfl⟩ e1 (by rw [if_pos e2, e3]) (fun _ _ => rfl)⟩
  · have hz' : (S.digits == 0) = false := by simpa using hz
    have HZ := Lib.hid hz
    clear hz
    go_enter Tryd.func42, Tryd.ntmps42
    go_wp2
    go_ret
    have hz := HZ.out
    have e1 : S.num b = S.chosen * 10 + (n - 48) := by unfold CS.num; rw [if_neg hz, HB.out.2.2, htwo.out hz]
    have e2 : (S.digit b).typing = false := by
      show decide (S.digits + 1 < 2) = false
      rw [decide_eq_false_iff_not]; omega
    exact ⟨rfl, h.two_set HB.out.1 (S.chosen * 10 + (n - 48)) (-1) (S.digit b) ⟨rfl, rfl, rfl, rfl, rfl, rfl⟩ e1 (by rw [e2]; rfl) (fun _ _ => rfl)⟩
end
end Go.Con
