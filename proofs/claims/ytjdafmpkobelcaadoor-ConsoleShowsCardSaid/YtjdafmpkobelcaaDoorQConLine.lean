/-
  The console's line, walked: a line of a task goes out. (Printed by gen/genline.py.)
-/
import Derived.StillTailTactics
import Derived.Test.YtjdafmpkobelcaaDoorQConItoa
set_option linter.unusedVariables false

namespace Go.Con
open Go.Own Go.RowKit Go.Proofs

section
variable {g : Ghost} {S : CS} {w w' : World}

set_option maxHeartbeats 400000 in
theorem echo2_calls (s : Bytes) {c : Nat} (hc : g.c = c) (h : Rep g S w) (hs : S.screen.length + s.length ≤ 1099511627776) :
    Calls Tryd.prog 34 #[.pointer (some ⟨c, 0, none⟩), .string ⟨s.toArray⟩] w fun e w' => e = .returned (.tuple #[]) ∧ ∃ g', Rep g' (S.echo s) w' ∧ Step g g' w w' ∧ g'.fo = g.fo ∧ g'.mo = g.mo := by
  subst hc
  obtain ⟨-, -, -, -, -, -, -, -, -, c9, fz⟩ := block_cells h.blk
  have hne := Lib.hid h.screen_ne
  go_enter Tryd.func34, Tryd.ntmps34
  go_wp2_with (at_builtin; refine wpList_append w rfl _ _ 26 9 rfl 5 1 1 (.int .u8 0) Tryd.underlying26 (.inl Tryd.underlying9) elemU8 g.sv _ rfl h.screen.1 _ _ _ rfl (Src.str _ rfl) (by rw [strCells_str]; exact bcells_one _) (by rw [strCells_str, bcells_length, bcells_length]; omega) (by rw [strCells_str, bcells_length, bcells_length]; omega) ?_; intro v' w1 hv' ht hw hn; clear hn; obtain ⟨pa, pn, pc, rfl, -⟩ := hv'.form
               have hb1 := h.block_after ht hne.out
               obtain ⟨-, -, -, -, -, -, -, -, -, d9, fz1⟩ := block_cells hb1)
  go_end0
  rw [strCells_str, ← bcells_append] at hv'
  obtain ⟨a1, b1⟩ := h.append_screen ht hv' hw
  exact ⟨rfl, _, a1, b1, rfl, rfl⟩

theorem turn_two {v v4 : Value} {w3 w4 w5 : World} {o : Obj} (h1 : Turn (fun j => v.ownBlock = some j) w3 w4) (hw : v4.ownBlock = v.ownBlock ∨ v4.ownBlock = some w3.heap.size) (h2 : Turn (fun j => v4.ownBlock = some j) (w4.alloc o) w5) : Turn (fun j => v.ownBlock = some j) w3 w5 := by
  have ha : Turn (fun j => v.ownBlock = some j ∨ w3.heap.size ≤ j) w3 w5 := Turn.trans (h1.mono fun j _ hj => .inl hj) (Turn.trans ((Turn.refl _ w4).alloc o) (h2.mono fun j _ hj => by
    rcases hw with hw | hw
    · exact .inl (hw ▸ hj)
    · rw [hw] at hj; cases hj; exact .inr (Nat.le_refl _)))
  exact ha.mono fun j hj hh => hh.resolve_right (by omega)
theorem own_two {v v4 v5 : Value} {w3 w4 : World} {o : Obj} (h1 : Turn (fun j => v.ownBlock = some j) w3 w4) (hw : v4.ownBlock = v.ownBlock ∨ v4.ownBlock = some w3.heap.size) (h2 : v5.ownBlock = v4.ownBlock ∨ v5.ownBlock = some (w4.alloc o).heap.size) :
    v5.ownBlock = v.ownBlock ∨ ∃ b, v5.ownBlock = some b ∧ w3.heap.size ≤ b := by
  rcases h2 with h2 | h2
  · rcases hw with hw | hw
    · exact .inl (h2.trans hw)
    · exact .inr ⟨_, h2.trans hw, Nat.le_refl _⟩
  · exact .inr ⟨_, h2, by have := h1.size; simp; omega⟩

/-- A line has gone out: the console; the map of the lines that tasks are writing is as it was. -/
def LinePost (g : Ghost) (S : CS) (k : Nat) (w : World) (e : Ending) (w' : World) : Prop :=
  e = .returned (.tuple #[]) ∧ ∃ g', Rep g' (S.line k (S.out k)) w' ∧ Step g g' w w' ∧ g'.fo = g.fo ∧ g'.mo = g.mo

set_option maxRecDepth 10000 in
set_option maxHeartbeats 1000000 in
theorem line_new0 (k : Nat) (a : Option Addr) (n cap : Nat) {c : Nat} (hc : g.c = c) (h : Rep g S w) (hok : S.Ok) (hsc : S.screen.length ≤ 1099511000000) (hv : (g.fo k).getD nilSlice = .slice a n cap) (h1 : 1 ≤ k) (h2 : k ≤ 99) (hty : S.typed = []) (hla : (k : Int) ≠ S.last) :
    Calls Tryd.prog 25 #[.pointer (some ⟨c, 0, none⟩), .int .i64 k, .slice a n cap] w (LinePost g S k w) := by
  subst hc
  have ho80 := hok.out k
  have hl80 := hok.typed
  have HV := Lib.hid hv
  have HLA := Lib.hid hla
  have HTY := Lib.hid hty
  clear hv
  obtain ⟨ta, tcap, htv, -, -⟩ := h.typed_form
  obtain ⟨c0, -, -, -, -, -, -, -, c8, c9, fz⟩ := block_cells h.blk
  rw [htv] at c0
  rw [hty] at c0
  have hlq : ((k : Int) != S.last) = true := by simp [hla]
  clear htv hty hla
  go_enter Tryd.func25, Tryd.ntmps25
  obtain ⟨g1, hg1⟩ : ∃ x, x = g := ⟨_, rfl⟩
  obtain ⟨S1, hS1⟩ : ∃ x, x = S := ⟨_, rfl⟩
  have r1 : Rep g1 S1 w := by rw [hg1, hS1]; exact h
  have f1 : g1.fo = g.fo := by rw [hg1]
  have m1 : g1.mo = g.mo := by rw [hg1]
  have s1 : Step g g1 w w := by rw [hg1]; exact Step.refl _ _
  have q1 : S1.out = S.out ∧ S1.typed = S.typed ∧ S1.last = S.last ∧ S1.screen = S.screen ++ (if S.typed = [] then [] else [10]) := by rw [hS1]; exact ⟨rfl, rfl, rfl, by rw [if_pos HTY.out]; simp⟩
  have q2 : S1 = { S with screen := S1.screen } := by rw [hS1]
  have Q := Lib.hid (And.intro q1 q2)
  have sc1 : S1.screen.length ≤ 1099511000001 := by rw [q1.2.2.2, List.length_append]; split <;> simp <;> omega
  have F1 := Lib.hid (And.intro f1 m1)
  have r1x := r1
  obtain ⟨d0, -, -, -, -, -, -, -, d8, d9, fd⟩ := block_cells r1.blk
  rw [s1.c] at d0 d8 d9 fd
  rw [q1.2.2.1] at d8
  clear q1 q2 hS1 hg1 f1 m1 c8 c9 fz
  have hcat : (⟨(numB k).toArray⟩ : ByteArray) ++ ⟨#[58, 32]⟩ = ⟨(numB k ++ [58, 32]).toArray⟩ := bstr_append (numB k) [58, 32]
  have hnl := numB_length k
  have hbig : ¬ (9223372036854775807 < (numB k).length + 2) := by omega
  obtain ⟨a0, n0, k0, hv0, -⟩ := r1.screen.1.form
  have hs0 := r1.drew.screen.1
  rw [hv0] at d9 hs0
  obtain ⟨v3, w3, happ, hv3, ht3, hw3, -⟩ := run_append (P := Tryd.prog) w.drew 26 9 26 5 1 1 (.int .u8 0) Tryd.underlying26 (.inl Tryd.underlying9) elemU8 (.slice a0 n0 k0) _ hs0 (.string ⟨(numB k ++ [58, 32]).toArray⟩) _ _ (Src.str _ rfl) (by rw [strCells_str]; exact bcells_one _) (by rw [strCells_str, bcells_length, bcells_length]; simp; omega) (by rw [strCells_str, bcells_length, bcells_length]; simp; omega)
  rw [strCells_str, ← bcells_append] at hv3
  obtain ⟨pa, pn, pc, rfl, -⟩ := hv3.form
  have hb1 := r1.drew.block_after ht3 (fun e => r1.screen_ne (by rw [hv0]; exact e))
  obtain ⟨-, -, -, -, -, -, -, -, -, e9, fe⟩ := block_cells hb1
  rw [s1.c] at e9 fe
  obtain ⟨r2, s2⟩ := r1.drew.append_screen (by rw [hv0]; exact ht3) hv3 (by rw [hv0]; exact hw3)
  obtain ⟨w2, hw2⟩ : ∃ x, x = w3.setCell ⟨g1.c, 9, none⟩ (.slice pa pn pc) := ⟨_, rfl⟩
  rw [← hw2] at r2 s2
  rw [s1.c] at hw2
  have s12 := (s1.drew).trans s2
  have HR := Lib.hid (And.intro r2 s12)
  have HW2 := Lib.hid hw2
  clear r2 s2 s12 hw2 hb1 hw3 ht3 hv3 hs0 hv0 r1x
  go_wp2_with fail
  refine wp_region_plan (aF := ?aF) [8, 11] [(0, 0), (0, 1), (1, 0), (1, 1), (2, 0), (3, 0), (4, 0), (5, 0), (6, 0), (7, 0), (8, 0), (9, 1), (10, 1), (11, 1)] [w.drew, w3, w3.setCell ⟨g.c, 9, none⟩ (.slice pa pn pc)] [?b0, ?b1, ?b2, ?b3, ?b4, ?b5, .string ⟨(numB k).toArray⟩, .string ⟨(numB k ++ [58, 32]).toArray⟩, .slice pa pn pc, ?b9, ?b10, undef] (by kernel_rfl) (by kernel_rfl) ?gF rfl rfl rfl ?gob ?gend
  case gF => simp only [putAll, Act.put]; go_simp; rfl
  case gob =>
    repeat' (first
      | exact obls_nil
      | (refine obls_cons rfl rfl rfl ?_ ?_)
      | (apply Runs.skip rfl rfl; (focus (go_simp; try exact rfl)); exact rfl)
      | (apply Runs.value rfl; (focus (go_simp; try exact rfl)); exact rfl))
    · refine Runs.call (f := 35) (args := #[.int .i64 k]) (r := .ok (.enter 35 #[.int .i64 k]) _) rfl ?_ rfl (itoa_calls k (by omega) _) rfl
      go_simp
    · exact Runs.append rfl (.tmp 24) (.tmp 27) 26 9 rfl _ _ _ rfl rfl happ rfl
  rw [← HW2.out]
  clear hcat hbig d0 d8 d9 fd e9 fe happ
  obtain ⟨r2, s2⟩ := HR.out
  generalize hG2 : ({ g1 with sv := .slice pa pn pc, ρ := retag g1.ρ w.drew.heap.size w3.heap.size (3, 0) } : Ghost) = g2 at r2 s2
  have f2 : g2.fo = g.fo ∧ g2.mo = g.mo := by rw [← hG2]; exact F1.out
  generalize hS2 : ({ S1 with screen := S1.screen ++ (numB k ++ [58, 32]) } : CS) = S2 at r2
  have q2 : S2.out = S.out ∧ S2.typed = S.typed ∧ S2.screen = S.screen ++ S.ahead k ∧ S2 = { S with screen := S2.screen } := by
    rw [← hS2]
    obtain ⟨⟨x1, x2, x3, x4⟩, x5⟩ := Q.out
    refine ⟨x1, x2, ?_, by rw [x5]⟩
    show S1.screen ++ _ = _
    rw [x4]; unfold CS.ahead; rw [if_neg HLA.out, List.append_assoc]
  clear hS2 hG2 HR HW2 r1 s1 Q F1 sc1
  have Q2 := Lib.hid q2
  have F2 := Lib.hid f2
  have sc2 : S2.screen.length ≤ 1099511000006 := by rw [q2.2.2.1, List.length_append]; have := S.ahead_length k; omega
  clear q2 f2
  have r3 := r2.set_last (k : Int)
  have s3 := s2.trans (r2.step_set 8 (.int .i64 k) g2 rfl rfl)
  have hc2 : g2.c = g.c := s2.c
  rw [hc2] at r3 s3
  have HOB := (r3.outv k).1
  rw [F2.out.1, HV.out] at HOB
  have HOB2 : SliceAt (w2.setCell ⟨g.c, 8, none⟩ (.int .i64 k)) 5 1 (.slice a n cap) (bcells (S.out k)) := by
    have := HOB
    rw [show ({ S2 with last := (k : Int) } : CS).out = S.out from Q2.out.1] at this
    exact this
  have HOB3 := Lib.hid HOB2
  obtain ⟨c0, -, -, -, -, -, -, -, c8, c9, fz⟩ := block_cells r2.blk
  rw [hc2] at c0 c8 c9 fz
  have hne := Lib.hid r3.screen_ne
  have R3 := Lib.hid (And.intro r3 s3)
  have HW := Lib.hid (And.intro sc2 ho80)
  clear HOB HOB2 r2 s2 r3 s3
  go_wp2_with (first
    | (at_builtin; refine wpList_append _ rfl _ _ 26 26 rfl 5 1 1 (.int .u8 0) Tryd.underlying26 (.inr ⟨_, Tryd.underlying26⟩) elemU8 g2.sv _ rfl R3.out.1.screen.1 _ _ _ rfl (Src.of_slice HOB3.out) (bcells_one _) (by rw [bcells_length, bcells_length]; show (S2.screen.length + _) * 1 ≤ _; omega) (by rw [bcells_length, bcells_length]; show S2.screen.length + _ ≤ _; omega) ?_
       intro v4 w4 hv4 ht4 hw4 hn4; clear hn4; obtain ⟨pa4, pn4, pc4, rfl, -⟩ := hv4.form
       have hn4 := Lib.hid (heap_alloc_new w4 (.cells #[.int .u8 10] 5))
       have hv4a := Lib.hid (hv4.turn (S := fun _ => False) ((Turn.refl _ w4).alloc (.cells #[.int .u8 10] 5)) (fun _ _ hh => hh))
       have H4 := Lib.hid (And.intro ht4 hw4)
       clear ht4 hw4 hv4)
    | (at_builtin; refine wpList_append _ rfl _ _ 26 26 rfl 5 1 1 (.int .u8 0) Tryd.underlying26 (.inr ⟨_, Tryd.underlying26⟩) elemU8 (.slice pa4 pn4 pc4) _ rfl hv4a.out _ _ _ rfl (Src.one rfl hn4.out) (by intro u hu; simp at hu; subst hu; rfl) (by have := HW.out; simp [bcells_length]; omega) (by have := HW.out; simp [bcells_length]; omega) ?_
       intro v5 w5 hv5 ht5 hw5 hn5; clear hn5; obtain ⟨pa5, pn5, pc5, rfl, -⟩ := hv5.form
       have T5 : Turn (fun j => g2.sv.ownBlock = some j) (w2.setCell ⟨g.c, 8, none⟩ (.int .i64 k)) w5 := turn_two H4.out.1 H4.out.2 ht5
       have O5 := own_two H4.out.1 H4.out.2 hw5
       have HV5 : SliceAt w5 5 1 (.slice pa5 pn5 pc5) (bcells (S2.screen ++ S.out k ++ [10])) := by (rw [bcells_append, bcells_append]; exact hv5)
       have r5p := R3.out.1.append_screen2 T5 HV5 O5
       rw [hc2] at r5p
       have hb5 := R3.out.1.block_after T5 hne.out
       rw [hc2] at hb5
       obtain ⟨e0, -, -, -, -, -, -, -, e8, e9, fe⟩ := block_cells hb5
       obtain ⟨ya, ycap, hyv, hyc, hys⟩ := r5p.1.typed_form
       have hyv2 : g2.tv = .slice ya S2.typed.length ycap := hyv
       rw [hyv2] at e0
       have hcv := run_to_string (P := Tryd.prog) Tryd.underlying26 Tryd.underlying5 Tryd.underlying9 hys
       have R5 := Lib.hid r5p
       clear hv5 ht5 hw5 T5 O5 HV5 r5p hb5 hyv hyv2 hys hyc))
  refine (echo2_calls S2.typed (S := { S2 with last := (k : Int), screen := S2.screen ++ S.out k ++ [10] }) ((R5.out.2).c.trans hc2) R5.out.1 (by have h1 := HW.out; have h2 : S2.typed = S.typed := Q2.out.2.1; show (S2.screen ++ S.out k ++ [10]).length + _ ≤ _; rw [h2]; simp; omega)).mono ?_
  rintro e6 w6 ⟨rfl, g6, r6, s6, f6, m6⟩
  have FM := Lib.hid (And.intro f6 m6)
  clear e0 e8 e9 fe hcv c0 c8 c9 fz f6 m6 hc2
  go_wp2
  go_end0
  refine ⟨rfl, g6, ?_, (R3.out.2.trans R5.out.2).trans s6, FM.out.1.trans F2.out.1, FM.out.2.trans F2.out.2⟩
  have e7 : CS.echo { S2 with last := (k : Int), screen := S2.screen ++ S.out k ++ [10] } S2.typed = S.line k (S.out k) := by
    obtain ⟨x1, x2, x3, x4⟩ := Q2.out
    rw [x4]
    unfold CS.echo CS.line
    simp only [x3]
  rw [← e7]
  exact r6

set_option maxRecDepth 10000 in
set_option maxHeartbeats 1000000 in
theorem line_new1 (k : Nat) (a : Option Addr) (n cap : Nat) {c : Nat} (hc : g.c = c) (h : Rep g S w) (hok : S.Ok) (hsc : S.screen.length ≤ 1099511000000) (hv : (g.fo k).getD nilSlice = .slice a n cap) (h1 : 1 ≤ k) (h2 : k ≤ 99) (hty : 0 < S.typed.length) (hla : (k : Int) ≠ S.last) :
    Calls Tryd.prog 25 #[.pointer (some ⟨c, 0, none⟩), .int .i64 k, .slice a n cap] w (LinePost g S k w) := by
  subst hc
  have ho80 := hok.out k
  have hl80 := hok.typed
  have HV := Lib.hid hv
  have HLA := Lib.hid hla
  have HTY := Lib.hid hty
  clear hv
  obtain ⟨ta, tcap, htv, -, -⟩ := h.typed_form
  obtain ⟨c0, -, -, -, -, -, -, -, c8, c9, fz⟩ := block_cells h.blk
  rw [htv] at c0
  have hty1 : (0 : Int) < (S.typed.length : Int) := by omega
  have hlq : ((k : Int) != S.last) = true := by simp [hla]
  clear htv hty hla
  go_enter Tryd.func25, Tryd.ntmps25
  go_wp2_with fail
  refine (echo2_calls [10] rfl h (by simp; omega)).mono ?_
  rintro e1 w1 ⟨rfl, g1, r1, s1, f1, m1⟩
  obtain ⟨S1, hS1⟩ : ∃ x, x = S.echo [10] := ⟨_, rfl⟩
  rw [← hS1] at r1
  have q1 : S1.out = S.out ∧ S1.typed = S.typed ∧ S1.last = S.last ∧ S1.screen = S.screen ++ (if S.typed = [] then [] else [10]) := by rw [hS1]; exact ⟨rfl, rfl, rfl, by rw [if_neg (fun e => by have := HTY.out; rw [e] at this; simp at this)]; rfl⟩
  have q2 : S1 = { S with screen := S1.screen } := by rw [hS1]; rfl
  have Q := Lib.hid (And.intro q1 q2)
  have sc1 : S1.screen.length ≤ 1099511000001 := by rw [q1.2.2.2, List.length_append]; split <;> simp <;> omega
  have F1 := Lib.hid (And.intro f1 m1)
  have r1x := r1
  obtain ⟨d0, -, -, -, -, -, -, -, d8, d9, fd⟩ := block_cells r1.blk
  rw [s1.c] at d0 d8 d9 fd
  rw [q1.2.2.1] at d8
  clear q1 q2 hS1 f1 m1 c0 c8 c9 fz
  have hcat : (⟨(numB k).toArray⟩ : ByteArray) ++ ⟨#[58, 32]⟩ = ⟨(numB k ++ [58, 32]).toArray⟩ := bstr_append (numB k) [58, 32]
  have hnl := numB_length k
  have hbig : ¬ (9223372036854775807 < (numB k).length + 2) := by omega
  obtain ⟨a0, n0, k0, hv0, -⟩ := r1.screen.1.form
  have hs0 := r1.drew.screen.1
  rw [hv0] at d9 hs0
  obtain ⟨v3, w3, happ, hv3, ht3, hw3, -⟩ := run_append (P := Tryd.prog) w1.drew 26 9 26 5 1 1 (.int .u8 0) Tryd.underlying26 (.inl Tryd.underlying9) elemU8 (.slice a0 n0 k0) _ hs0 (.string ⟨(numB k ++ [58, 32]).toArray⟩) _ _ (Src.str _ rfl) (by rw [strCells_str]; exact bcells_one _) (by rw [strCells_str, bcells_length, bcells_length]; simp; omega) (by rw [strCells_str, bcells_length, bcells_length]; simp; omega)
  rw [strCells_str, ← bcells_append] at hv3
  obtain ⟨pa, pn, pc, rfl, -⟩ := hv3.form
  have hb1 := r1.drew.block_after ht3 (fun e => r1.screen_ne (by rw [hv0]; exact e))
  obtain ⟨-, -, -, -, -, -, -, -, -, e9, fe⟩ := block_cells hb1
  rw [s1.c] at e9 fe
  obtain ⟨r2, s2⟩ := r1.drew.append_screen (by rw [hv0]; exact ht3) hv3 (by rw [hv0]; exact hw3)
  obtain ⟨w2, hw2⟩ : ∃ x, x = w3.setCell ⟨g1.c, 9, none⟩ (.slice pa pn pc) := ⟨_, rfl⟩
  rw [← hw2] at r2 s2
  rw [s1.c] at hw2
  have s12 := (s1.drew).trans s2
  have HR := Lib.hid (And.intro r2 s12)
  have HW2 := Lib.hid hw2
  clear r2 s2 s12 hw2 hb1 hw3 ht3 hv3 hs0 hv0 r1x
  go_wp2_with fail
  refine wp_region_plan (aF := ?aF) [8, 11] [(0, 0), (0, 1), (1, 0), (1, 1), (2, 0), (3, 0), (4, 0), (5, 0), (6, 0), (7, 0), (8, 0), (9, 1), (10, 1), (11, 1)] [w1.drew, w3, w3.setCell ⟨g.c, 9, none⟩ (.slice pa pn pc)] [?b0, ?b1, ?b2, ?b3, ?b4, ?b5, .string ⟨(numB k).toArray⟩, .string ⟨(numB k ++ [58, 32]).toArray⟩, .slice pa pn pc, ?b9, ?b10, undef] (by kernel_rfl) (by kernel_rfl) ?gF rfl rfl rfl ?gob ?gend
  case gF => simp only [putAll, Act.put]; go_simp; rfl
  case gob =>
    repeat' (first
      | exact obls_nil
      | (refine obls_cons rfl rfl rfl ?_ ?_)
      | (apply Runs.skip rfl rfl; (focus (go_simp; try exact rfl)); exact rfl)
      | (apply Runs.value rfl; (focus (go_simp; try exact rfl)); exact rfl))
    · refine Runs.call (f := 35) (args := #[.int .i64 k]) (r := .ok (.enter 35 #[.int .i64 k]) _) rfl ?_ rfl (itoa_calls k (by omega) _) rfl
      go_simp
    · exact Runs.append rfl (.tmp 24) (.tmp 27) 26 9 rfl _ _ _ rfl rfl happ rfl
  rw [← HW2.out]
  clear hcat hbig d0 d8 d9 fd e9 fe happ
  obtain ⟨r2, s2⟩ := HR.out
  generalize hG2 : ({ g1 with sv := .slice pa pn pc, ρ := retag g1.ρ w1.drew.heap.size w3.heap.size (3, 0) } : Ghost) = g2 at r2 s2
  have f2 : g2.fo = g.fo ∧ g2.mo = g.mo := by rw [← hG2]; exact F1.out
  generalize hS2 : ({ S1 with screen := S1.screen ++ (numB k ++ [58, 32]) } : CS) = S2 at r2
  have q2 : S2.out = S.out ∧ S2.typed = S.typed ∧ S2.screen = S.screen ++ S.ahead k ∧ S2 = { S with screen := S2.screen } := by
    rw [← hS2]
    obtain ⟨⟨x1, x2, x3, x4⟩, x5⟩ := Q.out
    refine ⟨x1, x2, ?_, by rw [x5]⟩
    show S1.screen ++ _ = _
    rw [x4]; unfold CS.ahead; rw [if_neg HLA.out, List.append_assoc]
  clear hS2 hG2 HR HW2 r1 s1 Q F1 sc1
  have Q2 := Lib.hid q2
  have F2 := Lib.hid f2
  have sc2 : S2.screen.length ≤ 1099511000006 := by rw [q2.2.2.1, List.length_append]; have := S.ahead_length k; omega
  clear q2 f2
  have r3 := r2.set_last (k : Int)
  have s3 := s2.trans (r2.step_set 8 (.int .i64 k) g2 rfl rfl)
  have hc2 : g2.c = g.c := s2.c
  rw [hc2] at r3 s3
  have HOB := (r3.outv k).1
  rw [F2.out.1, HV.out] at HOB
  have HOB2 : SliceAt (w2.setCell ⟨g.c, 8, none⟩ (.int .i64 k)) 5 1 (.slice a n cap) (bcells (S.out k)) := by
    have := HOB
    rw [show ({ S2 with last := (k : Int) } : CS).out = S.out from Q2.out.1] at this
    exact this
  have HOB3 := Lib.hid HOB2
  obtain ⟨c0, -, -, -, -, -, -, -, c8, c9, fz⟩ := block_cells r2.blk
  rw [hc2] at c0 c8 c9 fz
  have hne := Lib.hid r3.screen_ne
  have R3 := Lib.hid (And.intro r3 s3)
  have HW := Lib.hid (And.intro sc2 ho80)
  clear HOB HOB2 r2 s2 r3 s3
  go_wp2_with (first
    | (at_builtin; refine wpList_append _ rfl _ _ 26 26 rfl 5 1 1 (.int .u8 0) Tryd.underlying26 (.inr ⟨_, Tryd.underlying26⟩) elemU8 g2.sv _ rfl R3.out.1.screen.1 _ _ _ rfl (Src.of_slice HOB3.out) (bcells_one _) (by rw [bcells_length, bcells_length]; show (S2.screen.length + _) * 1 ≤ _; omega) (by rw [bcells_length, bcells_length]; show S2.screen.length + _ ≤ _; omega) ?_
       intro v4 w4 hv4 ht4 hw4 hn4; clear hn4; obtain ⟨pa4, pn4, pc4, rfl, -⟩ := hv4.form
       have hn4 := Lib.hid (heap_alloc_new w4 (.cells #[.int .u8 10] 5))
       have hv4a := Lib.hid (hv4.turn (S := fun _ => False) ((Turn.refl _ w4).alloc (.cells #[.int .u8 10] 5)) (fun _ _ hh => hh))
       have H4 := Lib.hid (And.intro ht4 hw4)
       clear ht4 hw4 hv4)
    | (at_builtin; refine wpList_append _ rfl _ _ 26 26 rfl 5 1 1 (.int .u8 0) Tryd.underlying26 (.inr ⟨_, Tryd.underlying26⟩) elemU8 (.slice pa4 pn4 pc4) _ rfl hv4a.out _ _ _ rfl (Src.one rfl hn4.out) (by intro u hu; simp at hu; subst hu; rfl) (by have := HW.out; simp [bcells_length]; omega) (by have := HW.out; simp [bcells_length]; omega) ?_
       intro v5 w5 hv5 ht5 hw5 hn5; clear hn5; obtain ⟨pa5, pn5, pc5, rfl, -⟩ := hv5.form
       have T5 : Turn (fun j => g2.sv.ownBlock = some j) (w2.setCell ⟨g.c, 8, none⟩ (.int .i64 k)) w5 := turn_two H4.out.1 H4.out.2 ht5
       have O5 := own_two H4.out.1 H4.out.2 hw5
       have HV5 : SliceAt w5 5 1 (.slice pa5 pn5 pc5) (bcells (S2.screen ++ S.out k ++ [10])) := by (rw [bcells_append, bcells_append]; exact hv5)
       have r5p := R3.out.1.append_screen2 T5 HV5 O5
       rw [hc2] at r5p
       have hb5 := R3.out.1.block_after T5 hne.out
       rw [hc2] at hb5
       obtain ⟨e0, -, -, -, -, -, -, -, e8, e9, fe⟩ := block_cells hb5
       obtain ⟨ya, ycap, hyv, hyc, hys⟩ := r5p.1.typed_form
       have hyv2 : g2.tv = .slice ya S2.typed.length ycap := hyv
       rw [hyv2] at e0
       have hcv := run_to_string (P := Tryd.prog) Tryd.underlying26 Tryd.underlying5 Tryd.underlying9 hys
       have R5 := Lib.hid r5p
       clear hv5 ht5 hw5 T5 O5 HV5 r5p hb5 hyv hyv2 hys hyc))
  refine (echo2_calls S2.typed (S := { S2 with last := (k : Int), screen := S2.screen ++ S.out k ++ [10] }) ((R5.out.2).c.trans hc2) R5.out.1 (by have h1 := HW.out; have h2 : S2.typed = S.typed := Q2.out.2.1; show (S2.screen ++ S.out k ++ [10]).length + _ ≤ _; rw [h2]; simp; omega)).mono ?_
  rintro e6 w6 ⟨rfl, g6, r6, s6, f6, m6⟩
  have FM := Lib.hid (And.intro f6 m6)
  clear e0 e8 e9 fe hcv c0 c8 c9 fz f6 m6 hc2
  go_wp2
  go_end0
  refine ⟨rfl, g6, ?_, (R3.out.2.trans R5.out.2).trans s6, FM.out.1.trans F2.out.1, FM.out.2.trans F2.out.2⟩
  have e7 : CS.echo { S2 with last := (k : Int), screen := S2.screen ++ S.out k ++ [10] } S2.typed = S.line k (S.out k) := by
    obtain ⟨x1, x2, x3, x4⟩ := Q2.out
    rw [x4]
    unfold CS.echo CS.line
    simp only [x3]
  rw [← e7]
  exact r6

set_option maxRecDepth 10000 in
set_option maxHeartbeats 1000000 in
theorem line_same0 (k : Nat) (a : Option Addr) (n cap : Nat) {c : Nat} (hc : g.c = c) (h : Rep g S w) (hok : S.Ok) (hsc : S.screen.length ≤ 1099511000000) (hv : (g.fo k).getD nilSlice = .slice a n cap) (h1 : 1 ≤ k) (h2 : k ≤ 99) (hty : S.typed = []) (hla : (k : Int) = S.last) :
    Calls Tryd.prog 25 #[.pointer (some ⟨c, 0, none⟩), .int .i64 k, .slice a n cap] w (LinePost g S k w) := by
  subst hc
  have ho80 := hok.out k
  have hl80 := hok.typed
  have HV := Lib.hid hv
  have HLA := Lib.hid hla
  have HTY := Lib.hid hty
  clear hv
  obtain ⟨ta, tcap, htv, -, -⟩ := h.typed_form
  obtain ⟨c0, -, -, -, -, -, -, -, c8, c9, fz⟩ := block_cells h.blk
  rw [htv] at c0
  rw [hty] at c0
  have hlq : ((k : Int) != S.last) = false := by simp [hla]
  clear htv hty hla
  go_enter Tryd.func25, Tryd.ntmps25
  obtain ⟨g1, hg1⟩ : ∃ x, x = g := ⟨_, rfl⟩
  obtain ⟨S1, hS1⟩ : ∃ x, x = S := ⟨_, rfl⟩
  have r1 : Rep g1 S1 w := by rw [hg1, hS1]; exact h
  have f1 : g1.fo = g.fo := by rw [hg1]
  have m1 : g1.mo = g.mo := by rw [hg1]
  have s1 : Step g g1 w w := by rw [hg1]; exact Step.refl _ _
  have q1 : S1.out = S.out ∧ S1.typed = S.typed ∧ S1.last = S.last ∧ S1.screen = S.screen ++ (if S.typed = [] then [] else [10]) := by rw [hS1]; exact ⟨rfl, rfl, rfl, by rw [if_pos HTY.out]; simp⟩
  have q2 : S1 = { S with screen := S1.screen } := by rw [hS1]
  have Q := Lib.hid (And.intro q1 q2)
  have sc1 : S1.screen.length ≤ 1099511000001 := by rw [q1.2.2.2, List.length_append]; split <;> simp <;> omega
  have F1 := Lib.hid (And.intro f1 m1)
  have r1x := r1
  obtain ⟨d0, -, -, -, -, -, -, -, d8, d9, fd⟩ := block_cells r1.blk
  rw [s1.c] at d0 d8 d9 fd
  rw [q1.2.2.1] at d8
  clear q1 q2 hS1 hg1 f1 m1 c8 c9 fz
  obtain ⟨w2, hw2⟩ : ∃ x, x = w := ⟨_, rfl⟩
  have r2 : Rep g1 S1 w2 := by rw [hw2]; exact r1
  have s2 : Step g g1 w w2 := by rw [hw2]; exact s1
  obtain ⟨g2, hg2⟩ : ∃ x, x = g1 := ⟨_, rfl⟩
  obtain ⟨S2, hS2⟩ : ∃ x, x = S1 := ⟨_, rfl⟩
  rw [← hg2] at r2 s2
  rw [← hS2] at r2
  have f2 : g2.fo = g.fo ∧ g2.mo = g.mo := by rw [hg2]; exact F1.out
  have q2 : S2.out = S.out ∧ S2.typed = S.typed ∧ S2.screen = S.screen ++ S.ahead k ∧ S2 = { S with screen := S2.screen } := by
    rw [hS2]
    obtain ⟨⟨x1, x2, x3, x4⟩, x5⟩ := Q.out
    refine ⟨x1, x2, ?_, by rw [← x5]⟩
    rw [x4]; unfold CS.ahead; rw [if_pos HLA.out]; simp
  subst hw2
  clear hS2 hg2 r1 r1x s1 Q F1 sc1 d0 d9
  have Q2 := Lib.hid q2
  have F2 := Lib.hid f2
  have sc2 : S2.screen.length ≤ 1099511000006 := by rw [q2.2.2.1, List.length_append]; have := S.ahead_length k; omega
  clear q2 f2
  have r3 := r2.set_last (k : Int)
  have s3 := s2.trans (r2.step_set 8 (.int .i64 k) g2 rfl rfl)
  have hc2 : g2.c = g.c := s2.c
  rw [hc2] at r3 s3
  have HOB := (r3.outv k).1
  rw [F2.out.1, HV.out] at HOB
  have HOB2 : SliceAt (w2.setCell ⟨g.c, 8, none⟩ (.int .i64 k)) 5 1 (.slice a n cap) (bcells (S.out k)) := by
    have := HOB
    rw [show ({ S2 with last := (k : Int) } : CS).out = S.out from Q2.out.1] at this
    exact this
  have HOB3 := Lib.hid HOB2
  obtain ⟨c0, -, -, -, -, -, -, -, c8, c9, fz⟩ := block_cells r2.blk
  rw [hc2] at c0 c8 c9 fz
  have hne := Lib.hid r3.screen_ne
  have R3 := Lib.hid (And.intro r3 s3)
  have HW := Lib.hid (And.intro sc2 ho80)
  clear HOB HOB2 r2 s2 r3 s3
  go_wp2_with (first
    | (at_builtin; refine wpList_append _ rfl _ _ 26 26 rfl 5 1 1 (.int .u8 0) Tryd.underlying26 (.inr ⟨_, Tryd.underlying26⟩) elemU8 g2.sv _ rfl R3.out.1.screen.1 _ _ _ rfl (Src.of_slice HOB3.out) (bcells_one _) (by rw [bcells_length, bcells_length]; show (S2.screen.length + _) * 1 ≤ _; omega) (by rw [bcells_length, bcells_length]; show S2.screen.length + _ ≤ _; omega) ?_
       intro v4 w4 hv4 ht4 hw4 hn4; clear hn4; obtain ⟨pa4, pn4, pc4, rfl, -⟩ := hv4.form
       have hn4 := Lib.hid (heap_alloc_new w4 (.cells #[.int .u8 10] 5))
       have hv4a := Lib.hid (hv4.turn (S := fun _ => False) ((Turn.refl _ w4).alloc (.cells #[.int .u8 10] 5)) (fun _ _ hh => hh))
       have H4 := Lib.hid (And.intro ht4 hw4)
       clear ht4 hw4 hv4)
    | (at_builtin; refine wpList_append _ rfl _ _ 26 26 rfl 5 1 1 (.int .u8 0) Tryd.underlying26 (.inr ⟨_, Tryd.underlying26⟩) elemU8 (.slice pa4 pn4 pc4) _ rfl hv4a.out _ _ _ rfl (Src.one rfl hn4.out) (by intro u hu; simp at hu; subst hu; rfl) (by have := HW.out; simp [bcells_length]; omega) (by have := HW.out; simp [bcells_length]; omega) ?_
       intro v5 w5 hv5 ht5 hw5 hn5; clear hn5; obtain ⟨pa5, pn5, pc5, rfl, -⟩ := hv5.form
       have T5 : Turn (fun j => g2.sv.ownBlock = some j) (w2.setCell ⟨g.c, 8, none⟩ (.int .i64 k)) w5 := turn_two H4.out.1 H4.out.2 ht5
       have O5 := own_two H4.out.1 H4.out.2 hw5
       have HV5 : SliceAt w5 5 1 (.slice pa5 pn5 pc5) (bcells (S2.screen ++ S.out k ++ [10])) := by (rw [bcells_append, bcells_append]; exact hv5)
       have r5p := R3.out.1.append_screen2 T5 HV5 O5
       rw [hc2] at r5p
       have hb5 := R3.out.1.block_after T5 hne.out
       rw [hc2] at hb5
       obtain ⟨e0, -, -, -, -, -, -, -, e8, e9, fe⟩ := block_cells hb5
       obtain ⟨ya, ycap, hyv, hyc, hys⟩ := r5p.1.typed_form
       have hyv2 : g2.tv = .slice ya S2.typed.length ycap := hyv
       rw [hyv2] at e0
       have hcv := run_to_string (P := Tryd.prog) Tryd.underlying26 Tryd.underlying5 Tryd.underlying9 hys
       have R5 := Lib.hid r5p
       clear hv5 ht5 hw5 T5 O5 HV5 r5p hb5 hyv hyv2 hys hyc))
  refine (echo2_calls S2.typed (S := { S2 with last := (k : Int), screen := S2.screen ++ S.out k ++ [10] }) ((R5.out.2).c.trans hc2) R5.out.1 (by have h1 := HW.out; have h2 : S2.typed = S.typed := Q2.out.2.1; show (S2.screen ++ S.out k ++ [10]).length + _ ≤ _; rw [h2]; simp; omega)).mono ?_
  rintro e6 w6 ⟨rfl, g6, r6, s6, f6, m6⟩
  have FM := Lib.hid (And.intro f6 m6)
  clear e0 e8 e9 fe hcv c0 c8 c9 fz f6 m6 hc2
  go_wp2
  go_end0
  refine ⟨rfl, g6, ?_, (R3.out.2.trans R5.out.2).trans s6, FM.out.1.trans F2.out.1, FM.out.2.trans F2.out.2⟩
  have e7 : CS.echo { S2 with last := (k : Int), screen := S2.screen ++ S.out k ++ [10] } S2.typed = S.line k (S.out k) := by
    obtain ⟨x1, x2, x3, x4⟩ := Q2.out
    rw [x4]
    unfold CS.echo CS.line
    simp only [x3]
  rw [← e7]
  exact r6

set_option maxRecDepth 10000 in
set_option maxHeartbeats 1000000 in
theorem line_same1 (k : Nat) (a : Option Addr) (n cap : Nat) {c : Nat} (hc : g.c = c) (h : Rep g S w) (hok : S.Ok) (hsc : S.screen.length ≤ 1099511000000) (hv : (g.fo k).getD nilSlice = .slice a n cap) (h1 : 1 ≤ k) (h2 : k ≤ 99) (hty : 0 < S.typed.length) (hla : (k : Int) = S.last) :
    Calls Tryd.prog 25 #[.pointer (some ⟨c, 0, none⟩), .int .i64 k, .slice a n cap] w (LinePost g S k w) := by
  subst hc
  have ho80 := hok.out k
  have hl80 := hok.typed
  have HV := Lib.hid hv
  have HLA := Lib.hid hla
  have HTY := Lib.hid hty
  clear hv
  obtain ⟨ta, tcap, htv, -, -⟩ := h.typed_form
  obtain ⟨c0, -, -, -, -, -, -, -, c8, c9, fz⟩ := block_cells h.blk
  rw [htv] at c0
  have hty1 : (0 : Int) < (S.typed.length : Int) := by omega
  have hlq : ((k : Int) != S.last) = false := by simp [hla]
  clear htv hty hla
  go_enter Tryd.func25, Tryd.ntmps25
  go_wp2_with fail
  refine (echo2_calls [10] rfl h (by simp; omega)).mono ?_
  rintro e1 w1 ⟨rfl, g1, r1, s1, f1, m1⟩
  obtain ⟨S1, hS1⟩ : ∃ x, x = S.echo [10] := ⟨_, rfl⟩
  rw [← hS1] at r1
  have q1 : S1.out = S.out ∧ S1.typed = S.typed ∧ S1.last = S.last ∧ S1.screen = S.screen ++ (if S.typed = [] then [] else [10]) := by rw [hS1]; exact ⟨rfl, rfl, rfl, by rw [if_neg (fun e => by have := HTY.out; rw [e] at this; simp at this)]; rfl⟩
  have q2 : S1 = { S with screen := S1.screen } := by rw [hS1]; rfl
  have Q := Lib.hid (And.intro q1 q2)
  have sc1 : S1.screen.length ≤ 1099511000001 := by rw [q1.2.2.2, List.length_append]; split <;> simp <;> omega
  have F1 := Lib.hid (And.intro f1 m1)
  have r1x := r1
  obtain ⟨d0, -, -, -, -, -, -, -, d8, d9, fd⟩ := block_cells r1.blk
  rw [s1.c] at d0 d8 d9 fd
  rw [q1.2.2.1] at d8
  clear q1 q2 hS1 f1 m1 c0 c8 c9 fz
  obtain ⟨w2, hw2⟩ : ∃ x, x = w1 := ⟨_, rfl⟩
  have r2 : Rep g1 S1 w2 := by rw [hw2]; exact r1
  have s2 : Step g g1 w w2 := by rw [hw2]; exact s1
  obtain ⟨g2, hg2⟩ : ∃ x, x = g1 := ⟨_, rfl⟩
  obtain ⟨S2, hS2⟩ : ∃ x, x = S1 := ⟨_, rfl⟩
  rw [← hg2] at r2 s2
  rw [← hS2] at r2
  have f2 : g2.fo = g.fo ∧ g2.mo = g.mo := by rw [hg2]; exact F1.out
  have q2 : S2.out = S.out ∧ S2.typed = S.typed ∧ S2.screen = S.screen ++ S.ahead k ∧ S2 = { S with screen := S2.screen } := by
    rw [hS2]
    obtain ⟨⟨x1, x2, x3, x4⟩, x5⟩ := Q.out
    refine ⟨x1, x2, ?_, by rw [← x5]⟩
    rw [x4]; unfold CS.ahead; rw [if_pos HLA.out]; simp
  subst hw2
  clear hS2 hg2 r1 r1x s1 Q F1 sc1 d0 d9
  have Q2 := Lib.hid q2
  have F2 := Lib.hid f2
  have sc2 : S2.screen.length ≤ 1099511000006 := by rw [q2.2.2.1, List.length_append]; have := S.ahead_length k; omega
  clear q2 f2
  have r3 := r2.set_last (k : Int)
  have s3 := s2.trans (r2.step_set 8 (.int .i64 k) g2 rfl rfl)
  have hc2 : g2.c = g.c := s2.c
  rw [hc2] at r3 s3
  have HOB := (r3.outv k).1
  rw [F2.out.1, HV.out] at HOB
  have HOB2 : SliceAt (w2.setCell ⟨g.c, 8, none⟩ (.int .i64 k)) 5 1 (.slice a n cap) (bcells (S.out k)) := by
    have := HOB
    rw [show ({ S2 with last := (k : Int) } : CS).out = S.out from Q2.out.1] at this
    exact this
  have HOB3 := Lib.hid HOB2
  obtain ⟨c0, -, -, -, -, -, -, -, c8, c9, fz⟩ := block_cells r2.blk
  rw [hc2] at c0 c8 c9 fz
  have hne := Lib.hid r3.screen_ne
  have R3 := Lib.hid (And.intro r3 s3)
  have HW := Lib.hid (And.intro sc2 ho80)
  clear HOB HOB2 r2 s2 r3 s3
  go_wp2_with (first
    | (at_builtin; refine wpList_append _ rfl _ _ 26 26 rfl 5 1 1 (.int .u8 0) Tryd.underlying26 (.inr ⟨_, Tryd.underlying26⟩) elemU8 g2.sv _ rfl R3.out.1.screen.1 _ _ _ rfl (Src.of_slice HOB3.out) (bcells_one _) (by rw [bcells_length, bcells_length]; show (S2.screen.length + _) * 1 ≤ _; omega) (by rw [bcells_length, bcells_length]; show S2.screen.length + _ ≤ _; omega) ?_
       intro v4 w4 hv4 ht4 hw4 hn4; clear hn4; obtain ⟨pa4, pn4, pc4, rfl, -⟩ := hv4.form
       have hn4 := Lib.hid (heap_alloc_new w4 (.cells #[.int .u8 10] 5))
       have hv4a := Lib.hid (hv4.turn (S := fun _ => False) ((Turn.refl _ w4).alloc (.cells #[.int .u8 10] 5)) (fun _ _ hh => hh))
       have H4 := Lib.hid (And.intro ht4 hw4)
       clear ht4 hw4 hv4)
    | (at_builtin; refine wpList_append _ rfl _ _ 26 26 rfl 5 1 1 (.int .u8 0) Tryd.underlying26 (.inr ⟨_, Tryd.underlying26⟩) elemU8 (.slice pa4 pn4 pc4) _ rfl hv4a.out _ _ _ rfl (Src.one rfl hn4.out) (by intro u hu; simp at hu; subst hu; rfl) (by have := HW.out; simp [bcells_length]; omega) (by have := HW.out; simp [bcells_length]; omega) ?_
       intro v5 w5 hv5 ht5 hw5 hn5; clear hn5; obtain ⟨pa5, pn5, pc5, rfl, -⟩ := hv5.form
       have T5 : Turn (fun j => g2.sv.ownBlock = some j) (w2.setCell ⟨g.c, 8, none⟩ (.int .i64 k)) w5 := turn_two H4.out.1 H4.out.2 ht5
       have O5 := own_two H4.out.1 H4.out.2 hw5
       have HV5 : SliceAt w5 5 1 (.slice pa5 pn5 pc5) (bcells (S2.screen ++ S.out k ++ [10])) := by (rw [bcells_append, bcells_append]; exact hv5)
       have r5p := R3.out.1.append_screen2 T5 HV5 O5
       rw [hc2] at r5p
       have hb5 := R3.out.1.block_after T5 hne.out
       rw [hc2] at hb5
       obtain ⟨e0, -, -, -, -, -, -, -, e8, e9, fe⟩ := block_cells hb5
       obtain ⟨ya, ycap, hyv, hyc, hys⟩ := r5p.1.typed_form
       have hyv2 : g2.tv = .slice ya S2.typed.length ycap := hyv
       rw [hyv2] at e0
       have hcv := run_to_string (P := Tryd.prog) Tryd.underlying26 Tryd.underlying5 Tryd.underlying9 hys
       have R5 := Lib.hid r5p
       clear hv5 ht5 hw5 T5 O5 HV5 r5p hb5 hyv hyv2 hys hyc))
  refine (echo2_calls S2.typed (S := { S2 with last := (k : Int), screen := S2.screen ++ S.out k ++ [10] }) ((R5.out.2).c.trans hc2) R5.out.1 (by have h1 := HW.out; have h2 : S2.typed = S.typed := Q2.out.2.1; show (S2.screen ++ S.out k ++ [10]).length + _ ≤ _; rw [h2]; simp; omega)).mono ?_
  rintro e6 w6 ⟨rfl, g6, r6, s6, f6, m6⟩
  have FM := Lib.hid (And.intro f6 m6)
  clear e0 e8 e9 fe hcv c0 c8 c9 fz f6 m6 hc2
  go_wp2
  go_end0
  refine ⟨rfl, g6, ?_, (R3.out.2.trans R5.out.2).trans s6, FM.out.1.trans F2.out.1, FM.out.2.trans F2.out.2⟩
  have e7 : CS.echo { S2 with last := (k : Int), screen := S2.screen ++ S.out k ++ [10] } S2.typed = S.line k (S.out k) := by
    obtain ⟨x1, x2, x3, x4⟩ := Q2.out
    rw [x4]
    unfold CS.echo CS.line
    simp only [x3]
  rw [← e7]
  exact r6

theorem line_calls (k : Nat) (a : Option Addr) (n cap : Nat) {c : Nat} (hc : g.c = c) (h : Rep g S w) (hok : S.Ok) (hsc : S.screen.length ≤ 1099511000000) (hv : (g.fo k).getD nilSlice = .slice a n cap) (h1 : 1 ≤ k) (h2 : k ≤ 99) :
    Calls Tryd.prog 25 #[.pointer (some ⟨c, 0, none⟩), .int .i64 k, .slice a n cap] w (LinePost g S k w) := by
  by_cases ht : S.typed = []
  · by_cases hl : (k : Int) = S.last
    · exact line_same0 k a n cap hc h hok hsc hv h1 h2 ht hl
    · exact line_new0 k a n cap hc h hok hsc hv h1 h2 ht hl
  · have ht' : 0 < S.typed.length := List.length_pos_iff.2 ht
    by_cases hl : (k : Int) = S.last
    · exact line_same1 k a n cap hc h hok hsc hv h1 h2 ht' hl
    · exact line_new1 k a n cap hc h hok hsc hv h1 h2 ht' hl
end
end Go.Con
