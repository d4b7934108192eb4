/-
  The console's hand, walked.
-/
import Derived.Test.YtjdafmpkobelcaaDoorQConWalk2
import Derived.Test.YtjdafmpkobelcaaDoorQOwnRegion
set_option linter.unusedVariables false

namespace Go.Con
open Go.Own Go.RowKit Go.Proofs

theorem bstr_append (a b : Bytes) : (⟨a.toArray⟩ : ByteArray) ++ ⟨b.toArray⟩ = ⟨(a ++ b).toArray⟩ := by
  apply ByteArray.ext
  simp

section
variable {g : Ghost} {S : CS} {w w' : World}

/-- What is left of a call that hands lines over: the lines, in a slice of its own, and the console. -/
def LinesPost (g : Ghost) (w : World) (R : CS × List Ln) (r : Ending) (w' : World) : Prop :=
  ∃ v g', r = .returned v ∧ Rep g' R.1 w' ∧ Step g g' w w' ∧ SliceAt w' 41 2 v (lcells R.2) ∧ ∀ b, v.ownBlock = some b → w.heap.size ≤ b ∧ (g'.ρ b).1 = 0

set_option maxHeartbeats 1000000 in
theorem hand_calls (e : Bytes) {c : Nat} (hc : g.c = c) (h : Rep g S w) (ht80 : S.typed.length ≤ 80) (he : e.length ≤ 1) (hl : (S.lines S.chosen).length ≤ 1099511600000) (h0 : 0 ≤ S.chosen) (h99 : S.chosen ≤ 99) :
    Calls Tryd.prog 37 #[.pointer (some ⟨c, 0, none⟩), .string ⟨e.toArray⟩] w (LinesPost g w (S.hand e)) := by
  subst hc
  obtain ⟨c0, c1, -, -, -, c5, -, -, -, -, fz⟩ := block_cells h.blk
  obtain ⟨a, cap, hv, hcp, hs⟩ := h.typed_form
  rw [hv] at c0
  have hcv := run_to_string (P := Tryd.prog) (w := w.drew) Tryd.underlying26 Tryd.underlying5 Tryd.underlying9 hs
  have hA := (h.alloc (.cells #[.int .i64 0, .string ⟨#[]⟩] 41)).drew
  obtain ⟨d0, d1, -, -, -, d5, -, -, -, -, fd⟩ := block_cells hA.blk
  rw [hv] at d0
  obtain ⟨a2, cap2, hv2, -, hs2⟩ := hA.typed_form
  obtain ⟨rfl, rfl⟩ : a2 = a ∧ cap2 = cap := by rw [hv] at hv2; cases hv2; exact ⟨rfl, rfl⟩
  have hcv2 := run_to_string (P := Tryd.prog) Tryd.underlying26 Tryd.underlying5 Tryd.underlying9 hs2
  have hbig : ¬ (9223372036854775807 < S.typed.length + e.length) := by omega
  clear hv hv2
  go_enter Tryd.func37, Tryd.ntmps37
  go_wp2
  refine wp_region_plan (aF := ?aF) [12, 13] [(0, 0), (0, 1), (1, 0), (1, 1), (2, 0), (2, 1), (3, 0), (3, 1), (4, 0), (4, 1), (5, 0), (5, 1), (6, 0), (6, 1), (7, 0), (7, 1), (8, 0), (8, 1), (9, 0), (9, 1), (10, 0), (10, 1), (11, 0), (11, 1), (12, 0), (13, 1)] [w.drew, (w.alloc (.cells #[.int .i64 0, .string ⟨#[]⟩] 41)).drew, ?wA] [?a0, ?a1, ?a2, ?a3, ?a4, ?a5, ?a6, ?a7, ?a8, ?a9, ?a10, ?a11, ?a12, undef] (by kernel_rfl) (by kernel_rfl) ?hF rfl rfl rfl ?hob ?hend
  case hF => simp only [putAll, Act.put]; go_simp; rfl
  case hob =>
    repeat' (first
      | exact obls_nil
      | (refine obls_cons rfl rfl rfl ?_ ?_)
      | (apply Runs.skip rfl rfl; (focus (go_simp; try exact rfl)); exact rfl)
      | (apply Runs.value rfl; (focus (go_simp; try exact rfl)); exact rfl))
  case hend =>
    rw [bstr_append]
    obtain ⟨wA, hwA⟩ : ∃ x, x = (w.alloc (.cells #[.int .i64 S.chosen, .string ⟨(S.typed ++ e).toArray⟩] 41)).drew := ⟨_, rfl⟩
    rw [← hwA]
    have rA : Rep g S wA := by rw [hwA]; exact (h.alloc _).drew
    have bA : wA.heap[w.heap.size]? = some (.cells #[.int .i64 S.chosen, .string ⟨(S.typed ++ e).toArray⟩] 41 (0, 0)) := by rw [hwA]; exact heap_alloc_new w _
    have sA : Step g g w wA := by rw [hwA]; exact ⟨((Turn.refl _ _).alloc _).drew, fun _ _ => rfl, rfl⟩
    have nA : (g.ρ w.heap.size).1 = 0 := h.fresh _ (Nat.le_refl _)
    have zA : wA.heap.size = w.heap.size + 1 := by rw [hwA]; simp
    generalize hLn : w.heap.size = L at *
    clear hA c0 c1 c5 fz d0 d1 d5 fd hcv hcv2 hwA hs2 hs
    have rB := rA.set_typed nilSlice [] (SliceT.nil _ _ _ _ _)
    have sB := sA.trans (rA.step_set 0 nilSlice { g with tv := nilSlice } rfl rfl)
    have hne : g.c ≠ L := fun e1 => by have := rA.tc; rw [e1] at this; rw [this] at nA; exact absurd nA (by decide)
    have bB : (wA.setCell ⟨g.c, 0, none⟩ nilSlice).heap[L]? = _ := (heap_setCell_ne nilSlice (fun e1 => hne e1.symm)).trans bA
    have hb0 := rA.blk
    obtain ⟨c0, -, -, -, -, -, -, -, -, -, fz⟩ := block_cells hb0
    have l0 : (wA.setCell ⟨g.c, 0, none⟩ (.slice none 0 0)).cell? ⟨L, 0, none⟩ = some (.int .i64 S.chosen) := cell_at bB rfl
    have H0 := Lib.hid hb0
    have HB := Lib.hid bB
    clear hb0 bB
    by_cases hz : S.chosen = 0
    · have hz' : (S.chosen == 0) = true := by simpa using hz
      have HZ := Lib.hid hz
      clear hz
      go_wp2
      go_ret
      refine ⟨_, _, rfl, by unfold CS.hand; rw [if_pos HZ.out]; exact rB, sB, by unfold CS.hand; rw [if_pos HZ.out]; exact SliceAt.nil _ _ _, fun b hb => by simp [Value.ownBlock] at hb⟩
    · have hz' : (S.chosen == 0) = false := by simpa using hz
      have HZ := Lib.hid hz
      clear hz
      go_wp2
      clear l0 c0 fz rA sA bA
      obtain ⟨wB, hwB⟩ : ∃ x, x = wA.setCell ⟨g.c, 0, none⟩ (.slice none 0 0) := ⟨_, rfl⟩
      have rB' : Rep { g with tv := nilSlice } { S with typed := [] } wB := by rw [hwB]; exact rB
      have sB' : Step g { g with tv := nilSlice } w wB := by rw [hwB]; exact sB
      have bB : wB.heap[L]? = some (.cells #[.int .i64 S.chosen, .string ⟨(S.typed ++ e).toArray⟩] 41 (0, 0)) := by rw [hwB]; exact HB.out
      rw [← hwB]
      clear hwB rB sB HB H0
      have rB1 := rB'.alloc (.cells #[.string ⟨(S.typed ++ e).toArray⟩] 9)
      obtain ⟨-, -, -, -, -, c5, -, -, -, -, fz⟩ := block_cells rB'.blk
      obtain ⟨-, -, -, -, -, d5, -, -, -, -, fd⟩ := block_cells rB1.blk
      obtain ⟨a0, n0, k0, hv0, hl0, -⟩ := (rB'.linesv S.chosen).1.form
      have hwf : (Lit.int .i64 S.chosen).wf = true := wf_i64 (by omega) (by omega)
      have hk0 := rB'.drew.lines.lookup (P := Tryd.prog) (t := 54) Tryd.underlying3 Tryd.underlying54 (z := nilSlice) (by kernel_rfl) hwf
      have hk1 := rB1.drew.lines.lookup (P := Tryd.prog) (t := 54) Tryd.underlying3 Tryd.underlying54 (z := nilSlice) (by kernel_rfl) hwf
      have hsl1 := (rB1.drew.linesv S.chosen).1
      rw [hv0] at hk0 hk1 hsl1
      obtain ⟨v', w1, happ, hv', hT, hown, -⟩ := run_append (P := Tryd.prog) (wB.alloc (.cells #[.string ⟨(S.typed ++ e).toArray⟩] 9)).drew 34 34 34 9 1 16 (.string ByteArray.empty) Tryd.underlying34 (.inr ⟨_, Tryd.underlying34⟩) elemStr
        (.slice a0 n0 k0) _ hsl1 (.slice (some ⟨wB.heap.size, 0, none⟩) 1 1) 1 (scells [S.typed ++ e]) (Src.one (g := wB.heap.size) (c := 1) rfl (heap_alloc_new wB _)) (scells_one _) (by rw [scells_length]; simp [scells]; omega) (by rw [scells_length]; simp [scells]; omega)
      obtain ⟨pa, pn, pc, rfl, -⟩ := hv'.form
      have tk := fun b hb => (rB1.drew.linesv S.chosen).2 b (by rw [hv0]; exact hb)
      have hgc : g.c < wB.heap.size := heap_lt rB'.blk
      have hLb : L < wB.heap.size := heap_lt bB
      have hmlB : g.ml < wB.heap.size := rB'.lines.lt
      have b1 : w1.heap[g.c]? = _ := (hT.block g.c (by simp; omega) (fun hb => by have h1 := tk _ hb; have h2 := rB'.tc; rw [show g.ρ g.c = _ from h1] at h2; cases h2)).trans ((heap_alloc_lt wB _ _ hgc).trans rB'.blk)
      have b2 : w1.heap[L]? = _ := (hT.block L (by simp; omega) (fun hb => by have h1 := tk _ hb; rw [show g.ρ L = _ from h1] at nA; exact absurd nA (by show ¬ ((7 : Nat) = 0); decide))).trans ((heap_alloc_lt wB _ _ hLb).trans bB)
      have m1 : MapAt w1 g.ml g.fl := rB1.drew.lines.keep (hT.block g.ml (by simp; omega) (fun hb => by have h1 := tk _ hb; have h2 := rB'.tl; rw [show g.ρ g.ml = _ from h1] at h2; cases h2))
      obtain ⟨w2, hup, m2, hT2, hz2⟩ := m1.update (P := Tryd.prog) (t := 54) Tryd.underlying3 Tryd.underlying54 hwf (.slice pa pn pc)
      have tB1 : Turn (fun j => ((g.fl S.chosen).getD nilSlice).ownBlock = some j) wB w1 := ((Turn.refl _ wB).alloc _).drew.trans (hT.mono fun j _ hj => by have := hv0; rw [show (g.fl S.chosen).getD nilSlice = _ from this]; exact hj)
      have put := rB'.put_line (w1 := w1) (w2 := w2) (v' := .slice pa pn pc) (k := S.chosen) (t := S.lines S.chosen ++ [S.typed ++ e]) tB1 (by rw [scells_append]; exact hv')
        (by
          rcases hown with hown | hown
          · left; rw [hown, show (({ g with tv := nilSlice } : Ghost).fl S.chosen).getD nilSlice = _ from hv0]
          · right; have := hT.size; simp at this; exact ⟨by omega, _, hown, by simp⟩) m2 hT2 hz2
      have b3 : w2.heap[L]? = _ := (hT2.block L (heap_lt b2) (fun hb => by rw [hb, show g.ρ g.ml = _ from rB'.tl] at nA; exact absurd nA (by decide))).trans b2
      obtain ⟨-, -, -, -, -, e5, -, -, -, -, fe⟩ := block_cells b1
      have l00 : wB.cell? ⟨L, 0, none⟩ = some (.int .i64 S.chosen) := cell_at bB rfl
      have l01 : wB.cell? ⟨L, 1, none⟩ = some (.string ⟨(S.typed ++ e).toArray⟩) := cell_at bB rfl
      have l10 : (wB.alloc (.cells #[.string ⟨(S.typed ++ e).toArray⟩] 9)).cell? ⟨L, 0, none⟩ = some (.int .i64 S.chosen) := cell_at ((heap_alloc_lt wB _ _ hLb).trans bB) rfl
      have l11 : (wB.alloc (.cells #[.string ⟨(S.typed ++ e).toArray⟩] 9)).cell? ⟨L, 1, none⟩ = some (.string ⟨(S.typed ++ e).toArray⟩) := cell_at ((heap_alloc_lt wB _ _ hLb).trans bB) rfl
      have l20 : w1.cell? ⟨L, 0, none⟩ = some (.int .i64 S.chosen) := cell_at b2 rfl
      have l21 : w1.cell? ⟨L, 1, none⟩ = some (.string ⟨(S.typed ++ e).toArray⟩) := cell_at b2 rfl
      have l30 : w2.cell? ⟨L, 0, none⟩ = some (.int .i64 S.chosen) := cell_at b3 rfl
      have l31 : w2.cell? ⟨L, 1, none⟩ = some (.string ⟨(S.typed ++ e).toArray⟩) := cell_at b3 rfl
      have HT := Lib.hid (And.intro hv' (And.intro hv0 hown))
      dsimp only at c5 fz d5 fd e5 fe hk0 hk1
      clear hv' hv0 hown hl0 tk b1 b2 m1 m2 tB1 b3 hsl1 bB hz2
      refine wp_region_plan (aF := ?bF) [15, 16, 17] [(0, 0), (0, 1), (0, 2), (1, 0), (1, 1), (1, 2), (2, 0), (2, 1), (2, 2), (3, 0), (3, 1), (3, 2), (4, 0), (4, 1), (4, 2), (5, 0), (5, 1), (5, 2), (6, 0), (6, 1), (6, 2), (7, 0), (7, 1), (7, 2), (8, 0), (8, 1), (9, 0), (9, 1), (10, 0), (10, 1), (11, 0), (11, 1), (12, 0), (12, 1), (13, 0), (14, 0), (15, 0), (16, 1), (17, 2)] [wB.drew, (wB.alloc (.cells #[.string ⟨(S.typed ++ e).toArray⟩] 9)).drew, w1, w2] [?b0, ?b1, ?b2, ?b3, ?b4, ?b5, ?b6, ?b7, ?b8, ?b9, ?b10, ?b11, ?b12, ?b13, ?b14, ?b15, .slice pa pn pc, undef] (by kernel_rfl) (by kernel_rfl) ?gF rfl rfl rfl ?gob ?gend
      case gF => simp only [putAll, Act.put]; go_simp; rfl
      case gob =>
        repeat' (first
          | exact obls_nil
          | (refine obls_cons rfl rfl rfl ?_ ?_)
          | (apply Runs.skip rfl rfl; (focus (go_simp; try exact rfl)); exact rfl)
          | (apply Runs.value rfl; (focus (go_simp; try exact rfl)); exact rfl))
        exact Runs.append rfl (.tmp 36) (.tmp 39) 34 34 rfl _ _ _ rfl rfl happ rfl
      case gend =>
        have hLw := Lib.hid hLn
        clear hLn
        go_wp2
        go_ret
        have hsz : L ≤ w2.heap.size := by have h0 := hLw.out; have h1 := put.2.turn.size; have h2 := sB'.turn.size; omega
        refine ⟨_, _, rfl, ?_, (sB'.trans put.2).alloc _, ?_, fun b hb => ?_⟩
        · unfold CS.hand
          rw [if_neg HZ.out]
          exact put.1.alloc _
        · unfold CS.hand
          rw [if_neg HZ.out]
          exact SliceAt.made (heap_alloc_new w2 _) rfl (by unfold maxLen; omega)
        · have e1 : w2.heap.size = b := by simpa [Value.ownBlock] using hb
          subst e1
          exact ⟨by rw [hLw.out]; exact hsz, put.1.fresh _ (Nat.le_refl _)⟩
end
end Go.Con
