/-
  The console's small functions, walked: echo, digit, ready, New, Screen, Chosen, Typed.
-/
import Derived.KernelRfl
import Derived.WalkSpells
import Derived.Test.YtjdafmpkobelcaaDoorQConRep
set_option linter.unusedVariables false

namespace Go.Con
open Go.Own Go.RowKit Go.Proofs

theorem elemU8 : Elem Tryd.prog 5 1 1 (.int .u8 0) := Elem.mk' (by kernel_rfl) rfl (by decide)
theorem elemStr : Elem Tryd.prog 9 1 16 (.string ByteArray.empty) := Elem.mk' (by kernel_rfl) rfl (by decide)

section
variable {g : Ghost} {S : CS} {w w' : World}

theorem block_cells {c : Nat} (hb : w.heap[c]? = some (.cells (conCells g S) 58 (0, 0))) :
    w.cell? ⟨c, 0, none⟩ = some g.tv ∧ w.cell? ⟨c, 1, none⟩ = some (.int .i64 S.chosen) ∧ w.cell? ⟨c, 2, none⟩ = some (.bool S.typing) ∧ w.cell? ⟨c, 3, none⟩ = some (.int .i64 S.digits) ∧ w.cell? ⟨c, 4, none⟩ = some (.int .i64 S.number) ∧
    w.cell? ⟨c, 5, none⟩ = some (.map (some g.ml)) ∧ w.cell? ⟨c, 6, none⟩ = some (.map (some g.mf)) ∧ w.cell? ⟨c, 7, none⟩ = some (.map (some g.mo)) ∧ w.cell? ⟨c, 8, none⟩ = some (.int .i64 S.last) ∧ w.cell? ⟨c, 9, none⟩ = some g.sv ∧ (∀ i, w.frozen? ⟨c, i, none⟩ = false) :=
  ⟨cell_at hb rfl, cell_at hb rfl, cell_at hb rfl, cell_at hb rfl, cell_at hb rfl, cell_at hb rfl, cell_at hb rfl, cell_at hb rfl, cell_at hb rfl, cell_at hb rfl, fun _ => frozen_at hb⟩

theorem Rep.screen_ne (h : Rep g S w) : ¬ g.sv.ownBlock = some g.c := fun e => by have := h.screen.2 _ e; rw [h.tc] at this; cases this
theorem Rep.typed_ne (h : Rep g S w) : ¬ g.tv.ownBlock = some g.c := fun e => by have := h.typed.2 _ e; rw [h.tc] at this; cases this

theorem Rep.block_after {T : Nat → Prop} (h : Rep g S w) (ht : Turn T w w') (hT : ¬ T g.c) : w'.heap[g.c]? = some (.cells (conCells g S) 58 (0, 0)) := by
  rw [ht.block g.c (heap_lt h.blk) hT]; exact h.blk

set_option maxHeartbeats 400000 in
theorem echo_calls (s : Bytes) {c : Nat} (hc : g.c = c) (h : Rep g S w) (hs : S.screen.length + s.length ≤ 1099511627776) :
    Calls Tryd.prog 34 #[.pointer (some ⟨c, 0, none⟩), .string ⟨s.toArray⟩] w fun e w' => e = .returned (.tuple #[]) ∧ ∃ g', Rep g' (S.echo s) w' ∧ Step g g' w w' := by
  subst hc
  obtain ⟨-, -, -, -, -, -, -, -, -, c9, fz⟩ := block_cells h.blk
  have hne := Lib.hid h.screen_ne
  go_enter Tryd.func34, Tryd.ntmps34
  go_wp2_with (at_builtin; refine wpList_append w rfl _ _ 26 9 rfl 5 1 1 (.int .u8 0) Tryd.underlying26 (.inl Tryd.underlying9) elemU8 g.sv _ rfl h.screen.1 _ _ _ rfl (Src.str _ rfl) (by rw [strCells_str]; exact bcells_one _) (by rw [strCells_str, bcells_length, bcells_length]; omega) (by rw [strCells_str, bcells_length, bcells_length]; omega) ?_; intro v' w1 hv' ht hw hn; clear hn; obtain ⟨pa, pn, pc, rfl, -⟩ := hv'.form
               have hb1 := h.block_after ht hne.out
               obtain ⟨-, -, -, -, -, -, -, -, -, d9, fz1⟩ := block_cells hb1)
  go_end0
  rw [strCells_str, ← bcells_append] at hv'
  exact ⟨rfl, _, h.append_screen ht hv' hw⟩

/-- A byte that is no digit. -/
theorem digit_no (n : Int) {c : Nat} (hc : g.c = c) (h : Rep g S w) (h0 : 0 ≤ n) (h1 : n ≤ 255) (hn : n < 48 ∨ 57 < n) :
    Calls Tryd.prog 36 #[.pointer (some ⟨c, 0, none⟩), .int .u8 n] w fun e w' => e = .returned (.bool false) ∧ Rep g { S with typing := false } w' ∧ Step g g w w' := by
  subst hc
  obtain ⟨c0, c1, c2, c3, c4, -, -, -, -, -, fz⟩ := block_cells h.blk
  rcases hn with hn | hn
  · go_enter Tryd.func36, Tryd.ntmps36
    go_wp2
    go_ret
    exact ⟨rfl, h.set_typing _, h.step_set _ _ _ rfl rfl⟩
  · have hn' : ¬ n < 48 := by omega
    go_enter Tryd.func36, Tryd.ntmps36
    go_wp2
    go_ret
    exact ⟨rfl, h.set_typing _, h.step_set _ _ _ rfl rfl⟩

theorem Rep.step_set' {g0 : Ghost} {w0 : World} (h : Rep g S w) (hs : Step g0 g w0 w) (i : Nat) (v : Value) : Step g0 g w0 (w.setCell ⟨g.c, i, none⟩ v) := hs.trans (h.step_set i v g rfl rfl)

def DigitPost (g : Ghost) (S : CS) (w : World) (n : Int) (e : Ending) (w' : World) : Prop :=
  e = .returned (.bool true) ∧
      Rep g { S with number := (if S.digits = 0 then 0 else S.number) * 10 + (n - 48), digits := S.digits + 1, chosen := (if S.digits = 0 then 0 else S.number) * 10 + (n - 48), typing := decide (S.digits + 1 < 2) } w' ∧ Step g g w w'

theorem digit_yes (n : Int) {c : Nat} (hc : g.c = c) (h : Rep g S w) (h0 : 48 ≤ n) (h1 : n ≤ 57) (hd0 : 0 ≤ S.digits) (hd : S.digits ≤ 2) (hn0 : 0 ≤ S.number) (hn : S.number ≤ 99) :
    Calls Tryd.prog 36 #[.pointer (some ⟨c, 0, none⟩), .int .u8 n] w (DigitPost g S w n) := by
  subst hc
  obtain ⟨c0, c1, c2, c3, c4, -, -, -, -, -, fz⟩ := block_cells h.blk
  by_cases hz : S.digits = 0
  · have hz' : (S.digits == 0) = true := by simpa using hz
    have H := Lib.hid hz
    clear hz
    go_enter Tryd.func36, Tryd.ntmps36
    go_wp2
    go_ret
    have r0 := h.set_number 0
    have r1 := r0.set_number (n - 48)
    have r2 := r1.set_digits 1
    have r3 := r2.set_chosen (n - 48)
    have r4 := r3.set_typing true
    unfold DigitPost
    rw [if_pos H.out, show (0 : Int) * 10 + (n - 48) = n - 48 from by omega, show S.digits + 1 = 1 from by rw [H.out]; rfl]
    exact ⟨rfl, r4, r3.step_set' (r2.step_set' (r1.step_set' (r0.step_set' (h.step_set' (Step.refl _ _) _ _) _ _) _ _) _ _) _ _⟩
  · have hz' : (S.digits == 0) = false := by simpa using hz
    have H := Lib.hid hz
    clear hz
    go_enter Tryd.func36, Tryd.ntmps36
    go_wp2
    go_ret
    have r1 := h.set_number (S.number * 10 + (n - 48))
    have r2 := r1.set_digits (S.digits + 1)
    have r3 := r2.set_chosen (S.number * 10 + (n - 48))
    have r4 := r3.set_typing (decide (S.digits + 1 < 2))
    unfold DigitPost
    rw [if_neg H.out]
    exact ⟨rfl, r4, r3.step_set' (r2.step_set' (r1.step_set' (h.step_set' (Step.refl _ _) _ _) _ _) _ _) _ _⟩

/-- A console that is ready stays as it is. -/
theorem ready_calls {c : Nat} (hc : g.c = c) (h : Rep g S w) : Calls Tryd.prog 24 #[.pointer (some ⟨c, 0, none⟩)] w fun e w' => e = .returned (.tuple #[]) ∧ w' = w := by
  subst hc
  obtain ⟨-, -, -, -, -, c5, -, -, -, -, fz⟩ := block_cells h.blk
  have q := run_eql_map_nil w 54 _ _ (some g.ml) Tryd.underlying54
  go_enter Tryd.func24, Tryd.ntmps24
  go_wp2
  go_end0
  exact ⟨rfl, rfl⟩

theorem chosen_calls {c : Nat} (hc : g.c = c) (h : Rep g S w) : Calls Tryd.prog 17 #[.pointer (some ⟨c, 0, none⟩)] w fun e w' => e = .returned (.int .i64 S.chosen) ∧ w' = w := by
  subst hc
  obtain ⟨-, c1, -, -, -, c5, -, -, -, -, fz⟩ := block_cells h.blk
  go_enter Tryd.func17, Tryd.ntmps17
  go_wp2_with (go_at_call 24; refine (ready_calls rfl h).mono ?_; rintro e w' ⟨rfl, rfl⟩)
  go_ret
  exact ⟨rfl, rfl⟩

theorem fold_push (l : Bytes) : ∀ acc : ByteArray, (l.map fun b => (b.toNat : Int)).foldl (fun r n => r.push (UInt8.ofNat n.toNat)) acc = ⟨acc.data ++ l.toArray⟩ := by
  induction l with
  | nil => intro acc; simp
  | cons b r ih =>
    intro acc
    simp only [List.map_cons, List.foldl_cons]
    rw [ih]
    simp [ByteArray.push]

/-- 'string(b)': b an owned slice of bytes. -/
theorem run_to_string {P : Program} {src dst e : TypeId} {a : Option Addr} {n cap : Nat} {l : Bytes} (hs : P.underlying src = some (.slice e)) (he : P.underlying e = some (.int .u8)) (hd : P.underlying dst = some .string)
    (h : SliceAt w e 1 (.slice a n cap) (bcells l)) : (convert src dst (.slice a n cap)).run P w = .ok (.string ⟨l.toArray⟩) w := by
  rw [run_convert_bytes_string w src dst e a n cap hs he hd]
  rcases a with _ | a
  · have hl : l = [] := by
      rcases h with ⟨_, h⟩ | ⟨g, off, n', cap', cur, hv, _⟩
      · simpa [bcells] using h
      · cases hv
    subst hl
    simp [Conv.bytesToString]
    rfl
  · have hn : n = l.length := by
      obtain ⟨a', n', c', hv, hl, _⟩ := h.form
      cases hv
      rw [bcells_length] at hl
      omega
    subst hn
    have hx : (loadCells a l.length).run P w = .ok (((l.map fun b => (b.toNat : Int)).map (Value.int .u8)).toArray) w := by
      have h2 : SliceAt w e 1 (.slice (some a) l.length cap) (bcells l) := h
      rcases h2 with ⟨hv, _⟩ | ⟨g, off, n', cap', cur, hv, _⟩
      · cases hv
      · cases hv
        have := run_firstCells_some (P := P) w 1 l.length ⟨g, off, none⟩ l.length cap (bcells l) (by simp [bcells]) (fun j u hu => by rw [Addr.add_lit]; exact h.cells j u hu)
        simpa [Builtin.firstCells, bcells, Function.comp_def] using this
    rw [run_bytesToString w a l.length cap _ hx, fold_push]
    simp

theorem Rep.typed_form (h : Rep g S w) : ∃ a cap, g.tv = .slice a S.typed.length cap ∧ S.typed.length ≤ cap ∧ SliceAt w 5 1 (.slice a S.typed.length cap) (bcells S.typed) := by
  obtain ⟨a, n, cap, hv, hl, hn, _, _⟩ := h.typed.1.form
  rw [bcells_length, Nat.mul_one] at hl
  subst hl
  exact ⟨a, cap, hv, hn, by rw [← hv]; exact h.typed.1⟩

theorem typed_calls {c : Nat} (hc : g.c = c) (h : Rep g S w) : Calls Tryd.prog 16 #[.pointer (some ⟨c, 0, none⟩)] w fun e w' => e = .returned (.string ⟨S.typed.toArray⟩) ∧ w' = w := by
  subst hc
  obtain ⟨c0, -, -, -, -, -, -, -, -, -, fz⟩ := block_cells h.blk
  obtain ⟨a, cap, hv, hc, hs⟩ := h.typed_form
  rw [hv] at c0
  have hcv := run_to_string (P := Tryd.prog) Tryd.underlying26 Tryd.underlying5 Tryd.underlying9 hs
  clear hv
  go_enter Tryd.func16, Tryd.ntmps16
  go_wp2
  go_ret
  exact ⟨rfl, rfl⟩

set_option maxHeartbeats 400000 in
theorem screen_calls {c : Nat} (hc : g.c = c) (h : Rep g S w) (hs : S.screen.length ≤ 1099511627776) : Calls Tryd.prog 11 #[.pointer (some ⟨c, 0, none⟩)] w fun e w' =>
    ∃ v, e = .returned v ∧ SliceAt w' 5 1 v (bcells S.screen) ∧ Rep g S w' ∧ Step g g w w' ∧ (∀ b, v.ownBlock = some b → w.heap.size ≤ b) := by
  subst hc
  obtain ⟨-, -, -, -, -, -, -, -, -, c9, fz⟩ := block_cells h.blk
  obtain ⟨a, n, cap, hv, hl, -⟩ := h.screen.1.form
  have hsl : SliceAt w 5 1 (.slice a n cap) (bcells S.screen) := by rw [← hv]; exact h.screen.1
  rw [hv] at c9
  clear hv hl
  go_enter Tryd.func11, Tryd.ntmps11
  go_wp2_with (at_builtin; refine wpList_append w rfl _ _ 26 26 rfl 5 1 1 (.int .u8 0) Tryd.underlying26 (.inr ⟨_, Tryd.underlying26⟩) elemU8 (.slice none 0 0) [] rfl (SliceAt.nil _ _ _) _ _ _ rfl (Src.of_slice hsl) (bcells_one _) (by rw [bcells_length]; simp; omega) (by rw [bcells_length]; simp; omega) ?_; intro v' w1 hv' ht hw hn)
  go_ret
  have hT : Turn (fun _ => False) w w1 := ht.mono (fun k _ e => by simp [Value.ownBlock] at e)
  refine ⟨v', rfl, by simpa using hv', h.keep hT (fun _ _ hh => hh.elim), ⟨hT.mono (fun _ _ hh => hh.elim), fun _ _ => rfl, rfl⟩, fun b hb => ?_⟩
  rcases hw with hw | hw
  · rw [hw] at hb; simp [Value.ownBlock] at hb
  · rw [hw] at hb; cases hb; exact Nat.le_refl _
end
end Go.Con
