/-
  The reference's hand, walked.
-/
import Derived.Test.YtjdafmpkobelcaaDoorQRefWalk1
set_option linter.unusedVariables false

namespace Go.Con
open Go.Own Go.RowKit Go.Proofs

theorem elemRLine : Elem Tryd.prog 68 2 24 (.agg #[.int .i64 0, .string ByteArray.empty]) := Elem.mk' (by kernel_rfl) rfl (by decide)

section
variable {r : RG} {S : CS} {w w' : World}

def RLinesPost (r : RG) (w : World) (R : CS × List Ln) (e : Ending) (w' : World) : Prop :=
  ∃ v r', e = .returned v ∧ RRep r' R.1 w' ∧ Step r.g r'.g w w' ∧ SliceAt w' 68 2 v (lcells R.2) ∧ (∀ b, v.ownBlock = some b → w.heap.size ≤ b ∧ (r'.g.ρ b).1 = 0) ∧ r'.bg = true ∧ r'.wt = r.wt ++ R.2

theorem textsOf_hand {wt : List Ln} (h : ∀ k, S.lines k = textsOf k wt) (x : Bytes) (k : Int) : upd S.lines S.chosen (S.lines S.chosen ++ [x]) k = textsOf k (wt ++ [(S.chosen, x)]) := by
  rw [textsOf_append]
  by_cases hk : k = S.chosen
  · subst hk; rw [upd_self, h, textsOf_cons_eq (x := (S.chosen, x)) rfl]; rfl
  · rw [upd_ne _ _ hk, h, textsOf_cons_ne (x := (S.chosen, x)) (fun e => hk e.symm)]; simp [textsOf]

set_option maxHeartbeats 1000000 in
theorem rhand_calls (e : Bytes) {c : Nat} (hc : r.g.c = c) (h : RRep r S w) (hb : r.bg = true) (ht80 : S.typed.length ≤ 80) (he : e.length ≤ 1) (hl : r.wt.length ≤ 1099511600) (h0 : 0 ≤ S.chosen) (h99 : S.chosen ≤ 99) :
    Calls Tryd.prog 44 #[.pointer (some ⟨c, 0, none⟩), .string ⟨e.toArray⟩] w (RLinesPost r w (S.hand e)) := by
  subst hc
  obtain ⟨c0, c1, -, -, -, -, -, fz⟩ := rblock h.blk
  obtain ⟨a, cap, hv, hcp, hs⟩ := h.typed_form
  rw [hv] at c0
  rw [if_pos hb] at c1
  have hcv := run_to_string (P := Tryd.prog) (w := w.drew) Tryd.underlying26 Tryd.underlying5 Tryd.underlying9 hs
  have hA := (h.alloc (.cells #[.int .i64 0, .string ⟨#[]⟩] 68)).drew
  obtain ⟨d0, d1, -, -, -, -, -, fd⟩ := rblock hA.blk
  rw [hv] at d0
  rw [if_pos hb] at d1
  obtain ⟨a2, cap2, hv2, -, hs2⟩ := hA.typed_form
  obtain ⟨rfl, rfl⟩ : a2 = a ∧ cap2 = cap := by rw [hv] at hv2; cases hv2; exact ⟨rfl, rfl⟩
  have hcv2 := run_to_string (P := Tryd.prog) Tryd.underlying26 Tryd.underlying5 Tryd.underlying9 hs2
  have hbig : ¬ (9223372036854775807 < S.typed.length + e.length) := by omega
  have HBG := Lib.hid hb
  clear hv hv2 hb
  go_enter Tryd.func44, Tryd.ntmps44
  go_wp2
  refine wp_region_plan (aF := ?aF) [12, 13] [(0, 0), (0, 1), (1, 0), (1, 1), (2, 0), (2, 1), (3, 0), (3, 1), (4, 0), (4, 1), (5, 0), (5, 1), (6, 0), (6, 1), (7, 0), (7, 1), (8, 0), (8, 1), (9, 0), (9, 1), (10, 0), (10, 1), (11, 0), (11, 1), (12, 0), (13, 1)] [w.drew, (w.alloc (.cells #[.int .i64 0, .string ⟨#[]⟩] 68)).drew, ?wA] [?a0, ?a1, ?a2, ?a3, ?a4, ?a5, ?a6, ?a7, ?a8, ?a9, ?a10, ?a11, ?a12, undef] (by kernel_rfl) (by kernel_rfl) ?hF rfl rfl rfl ?hob ?hend
  case hF => simp only [putAll, Act.put]; go_simp; rfl
  case hob =>
    repeat' (first
      | exact obls_nil
      | (refine obls_cons rfl rfl rfl ?_ ?_)
      | (apply Runs.skip rfl rfl; (focus (go_simp; try exact rfl)); exact rfl)
      | (apply Runs.value rfl; (focus (go_simp; try exact rfl)); exact rfl))
  case hend =>
    rw [bstr_append]
    obtain ⟨wA, hwA⟩ : ∃ x, x = (w.alloc (.cells #[.int .i64 S.chosen, .string ⟨(S.typed ++ e).toArray⟩] 68)).drew := ⟨_, rfl⟩
    rw [← hwA]
    have rA : RRep r S wA := by rw [hwA]; exact (h.alloc _).drew
    have bA : wA.heap[w.heap.size]? = some (.cells #[.int .i64 S.chosen, .string ⟨(S.typed ++ e).toArray⟩] 68 (0, 0)) := by rw [hwA]; exact heap_alloc_new w _
    have sA : Step r.g r.g w wA := by rw [hwA]; exact ⟨((Turn.refl _ _).alloc _).drew, fun _ _ => rfl, rfl⟩
    have nA : (r.g.ρ w.heap.size).1 = 0 := h.fresh _ (Nat.le_refl _)
    have zA : wA.heap.size = w.heap.size + 1 := by rw [hwA]; simp
    generalize hLn : w.heap.size = L at *
    clear hA c0 c1 fz d0 d1 fd hcv hcv2 hwA hs2 hs
    obtain ⟨rB, sB0⟩ := rA.set_typed nilSlice [] (SliceT.nil _ _ _ _ _)
    have sB := sA.trans sB0
    have hne : r.g.c ≠ L := fun e1 => by have := rA.tc; rw [e1] at this; rw [this] at nA; exact absurd nA (by decide)
    have bB : (wA.setCell ⟨r.g.c, 0, none⟩ nilSlice).heap[L]? = _ := (heap_setCell_ne nilSlice (fun e1 => hne e1.symm)).trans bA
    have hb0 := rA.blk
    obtain ⟨c0, -, -, -, -, -, -, fz⟩ := rblock hb0
    have l0 : (wA.setCell ⟨r.g.c, 0, none⟩ (.slice none 0 0)).cell? ⟨L, 0, none⟩ = some (.int .i64 S.chosen) := cell_at bB rfl
    have H0 := Lib.hid hb0
    have HB := Lib.hid bB
    clear hb0 bB sB0
    by_cases hz : S.chosen = 0
    · have hz' : (S.chosen == 0) = true := by simpa using hz
      have HZ := Lib.hid hz
      clear hz
      go_wp2
      go_ret
      refine ⟨_, { r with g := { r.g with tv := nilSlice } }, rfl, by unfold CS.hand; rw [if_pos HZ.out]; exact rB, sB, by unfold CS.hand; rw [if_pos HZ.out]; exact SliceAt.nil _ _ _, fun b hb => by simp [Value.ownBlock] at hb, HBG.out, by unfold CS.hand; rw [if_pos HZ.out]; simp⟩
    · have hz' : (S.chosen == 0) = false := by simpa using hz
      have HZ := Lib.hid hz
      clear hz
      go_wp2
      clear l0 c0 fz rA sA bA
      obtain ⟨wB, hwB⟩ : ∃ x, x = wA.setCell ⟨r.g.c, 0, none⟩ (.slice none 0 0) := ⟨_, rfl⟩
      obtain ⟨r1, hr1⟩ : ∃ x : RG, x = { r with g := { r.g with tv := nilSlice } } := ⟨_, rfl⟩
      have rB' : RRep r1 { S with typed := [] } wB := by rw [hwB, hr1]; exact rB
      have sB' : Step r.g r1.g w wB := by rw [hwB, hr1]; exact sB
      have bB : wB.heap[L]? = some (.cells #[.int .i64 S.chosen, .string ⟨(S.typed ++ e).toArray⟩] 68 (0, 0)) := by rw [hwB]; exact HB.out
      have gc : r1.g.c = r.g.c := by rw [hr1]
      have nA1 : (r1.g.ρ L).1 = 0 := by rw [hr1]; exact nA
      have gw : r1.wt = r.wt := by rw [hr1]
      have gb : r1.bg = true := by rw [hr1]; exact HBG.out
      rw [← hwB, ← gc]
      have HR1 := Lib.hid (And.intro gw gb)
      clear hwB rB sB HB H0 hr1 gw gb gc nA hne
      obtain ⟨-, -, -, c3, -, -, -, fz⟩ := rblock rB'.blk
      have rB1 := (rB'.alloc (.cells #[.int .i64 S.chosen, .string ⟨(S.typed ++ e).toArray⟩] 68)).drew
      obtain ⟨-, -, -, d3, -, -, -, fd⟩ := rblock rB1.blk
      obtain ⟨a0, n0, k0, hv0, hl0, -⟩ := rB'.waiting.1.form
      have hsl1 := rB1.waiting.1
      rw [hv0] at c3 d3 hsl1
      have hwl : r1.wt.length ≤ 1099511600 := by rw [HR1.out.1]; exact hl
      obtain ⟨v', w1, happ, hv', hT, hown, -⟩ := run_append (P := Tryd.prog) (wB.alloc (.cells #[.int .i64 S.chosen, .string ⟨(S.typed ++ e).toArray⟩] 68)).drew 45 45 45 68 2 24 (.agg #[.int .i64 0, .string ByteArray.empty]) Tryd.underlying45 (.inr ⟨_, Tryd.underlying45⟩) elemRLine
        (.slice a0 n0 k0) _ hsl1 (.slice (some ⟨wB.heap.size, 0, none⟩) 1 1) 1 (lcells [(S.chosen, S.typed ++ e)]) (Src.of_slice (SliceAt.made (heap_alloc_new wB _) rfl (by unfold maxLen; omega))) (lcells_one _) (by rw [lcells_length, lcells_length]; simp; omega) (by rw [lcells_length, lcells_length]; simp; omega)
      rw [← lcells_append] at hv'
      obtain ⟨pa, pn, pc, rfl, -⟩ := hv'.form
      have tk := fun b hb => rB1.waiting.2 b (by rw [hv0]; exact hb)
      have hgc : r1.g.c < wB.heap.size := heap_lt rB'.blk
      have hLb : L < wB.heap.size := heap_lt bB
      have b1 := rB1.block_after hT (fun hb => by have h1 := tk _ hb; rw [rB'.tc] at h1; cases h1)
      obtain ⟨-, -, -, e3, -, -, -, fe⟩ := rblock b1
      have hneL : L ≠ r1.g.c := fun e1 => by have := rB'.tc; rw [← e1] at this; rw [this] at nA1; exact absurd nA1 (by decide)
      have b2 : (w1.setCell ⟨r1.g.c, 3, none⟩ (.slice pa pn pc)).heap[L]? = _ := (heap_setCell_ne _ (fun e1 => hneL e1)).trans ((hT.block L (by simp; omega) (fun hb => by have h1 := tk _ hb; rw [h1] at nA1; exact absurd nA1 (by show ¬ ((4 : Nat) = 0); decide))).trans ((heap_alloc_lt wB _ _ hLb).trans bB))
      obtain ⟨put, sput⟩ := rB1.append_waiting (t := r1.wt ++ [(S.chosen, S.typed ++ e)]) (L := upd S.lines S.chosen (S.lines S.chosen ++ [S.typed ++ e])) (hT.mono fun k _ hk => by rw [hv0]; exact hk) hv' (by rw [hv0]; exact hown)
        (fun k => textsOf_hand (S := S) (fun k => rB'.lines k) _ k)
      have sB2 := (sB'.trans ((Step.refl r1.g wB).alloc (.cells #[.int .i64 S.chosen, .string ⟨(S.typed ++ e).toArray⟩] 68)).drew).trans sput
      obtain ⟨w2, hw2⟩ : ∃ x, x = w1.setCell ⟨r1.g.c, 3, none⟩ (.slice pa pn pc) := ⟨_, rfl⟩
      rw [← hw2] at b2 put sput sB2
      have l00 : wB.cell? ⟨L, 0, none⟩ = some (.int .i64 S.chosen) := cell_at bB rfl
      have l01 : wB.cell? ⟨L, 1, none⟩ = some (.string ⟨(S.typed ++ e).toArray⟩) := cell_at bB rfl
      have l20 : w2.cell? ⟨L, 0, none⟩ = some (.int .i64 S.chosen) := cell_at b2 rfl
      have l21 : w2.cell? ⟨L, 1, none⟩ = some (.string ⟨(S.typed ++ e).toArray⟩) := cell_at b2 rfl
      have hszL : L ≤ w2.heap.size := by have h0 := heap_lt b2; omega
      have HL2 := Lib.hid (And.intro put (And.intro sB2 (And.intro hszL hLn)))
      clear hv' hv0 hown hl0 tk b1 hsl1 bB b2 put sput sB2 hszL rB1 rB' sB' hLn
      refine wp_region_plan (aF := ?bF) [6, 7, 10] [(0, 0), (0, 1), (0, 2), (1, 0), (1, 1), (1, 2), (2, 0), (2, 1), (3, 0), (3, 1), (4, 0), (4, 1), (5, 0), (6, 0), (7, 1), (8, 2), (9, 2), (10, 2)] [wB.drew, (wB.alloc (.cells #[.int .i64 S.chosen, .string ⟨(S.typed ++ e).toArray⟩] 68)).drew, w1, w1.setCell ⟨r1.g.c, 3, none⟩ (.slice pa pn pc)] [?b0, ?b1, ?b2, ?b3, ?b4, ?b5, ?b6, .slice pa pn pc, ?b8, ?b9, undef] (by kernel_rfl) (by kernel_rfl) ?gF rfl rfl rfl ?gob ?gend
      case gF => simp only [putAll, Act.put]; go_simp; rfl
      case gob =>
        repeat' (first
          | exact obls_nil
          | (refine obls_cons rfl rfl rfl ?_ ?_)
          | (apply Runs.skip rfl rfl; (focus (go_simp; try exact rfl)); exact rfl)
          | (apply Runs.value rfl; (focus (go_simp; try exact rfl)); exact rfl))
        exact Runs.append rfl (.tmp 28) (.tmp 30) 45 45 rfl _ _ _ rfl rfl happ rfl
      case gend =>
        rw [← hw2]
        clear hw2
        go_wp2
        go_ret
        obtain ⟨put, sB2, hszL, hLn⟩ := HL2.out
        refine ⟨_, { r1 with g := { r1.g with ρ := retag r1.g.ρ (wB.alloc (.cells #[.int .i64 S.chosen, .string ⟨(S.typed ++ e).toArray⟩] 68)).drew.heap.size w1.heap.size (4, 0) }, wv := .slice pa pn pc, wt := r1.wt ++ [(S.chosen, S.typed ++ e)] }, rfl, ?_, sB2.alloc _, ?_, fun b hb => ?_, HR1.out.2, ?_⟩
        · unfold CS.hand
          rw [if_neg HZ.out]
          exact put.alloc _
        · unfold CS.hand
          rw [if_neg HZ.out]
          exact SliceAt.made (heap_alloc_new w2 _) rfl (by unfold maxLen; omega)
        · have e1 : w2.heap.size = b := by simpa [Value.ownBlock] using hb
          subst e1
          exact ⟨by rw [hLn]; exact hszL, put.fresh _ (Nat.le_refl _)⟩
        · unfold CS.hand
          rw [if_neg HZ.out, ← HR1.out.1]
end
end Go.Con
