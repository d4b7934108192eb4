/-
  The console's Read, walked.
-/
import Derived.Test.YtjdafmpkobelcaaDoorQConType
set_option linter.unusedVariables false

namespace Go.Con
open Go.Own Go.RowKit Go.Proofs

section
variable {g : Ghost} {S : CS} {w w' : World}

theorem read_none (k : Int) (hw : (Lit.int .i64 k).wf = true) {c : Nat} (hc : g.c = c) (h : Rep g S w) (he : S.lines k = []) :
    Calls Tryd.prog 22 #[.pointer (some ⟨c, 0, none⟩), .int .i64 k] w fun e w' => e = .returned (.tuple #[.string ⟨#[]⟩, .bool false]) ∧ w' = w := by
  subst hc
  obtain ⟨-, -, -, -, -, c5, -⟩ := block_cells h.blk
  have hk := h.lines.lookup (P := Tryd.prog) (t := 54) Tryd.underlying3 Tryd.underlying54 (z := nilSlice) (by kernel_rfl) hw
  obtain ⟨a, n, cap, hv, hl, -⟩ := (h.linesv k).1.form
  rw [hv] at hk
  obtain rfl : n = 0 := by rw [he] at hl; simp [scells] at hl; omega
  clear hv hl
  go_enter Tryd.func22, Tryd.ntmps22
  go_wp2
  go_ret2
  exact ⟨rfl, rfl⟩

def ReadPost (g : Ghost) (S : CS) (w : World) (k : Int) (s : Bytes) (rest : List Bytes) (e : Ending) (w' : World) : Prop :=
  e = .returned (.tuple #[.string ⟨s.toArray⟩, .bool true]) ∧ ∃ g', Rep g' { S with lines := upd S.lines k rest } w' ∧ Step g g' w w'

set_option maxHeartbeats 1000000 in
theorem read_core1 (k : Int) (hw : (Lit.int .i64 k).wf = true) (h : Rep g S w) {s : Bytes} (b off : Nat) (hv : (g.fl k).getD nilSlice = .slice (some ⟨b, off, none⟩) (1) 1)
    (hc0 : w.cell? ⟨b, off, none⟩ = some (.string ⟨s.toArray⟩)) (hs' : SliceAt w 9 1 (.slice (some ⟨b, off, none⟩) 0 0) (scells [])) :
    Calls Tryd.prog 22 #[.pointer (some ⟨g.c, 0, none⟩), .int .i64 k] w (ReadPost g S w k s []) := by
  obtain ⟨-, -, -, -, -, c5, -⟩ := block_cells h.blk
  have hk := h.lines.lookup (P := Tryd.prog) (t := 54) Tryd.underlying3 Tryd.underlying54 (z := nilSlice) (by kernel_rfl) hw
  have hk2 := h.drew.lines.lookup (P := Tryd.prog) (t := 54) Tryd.underlying3 Tryd.underlying54 (z := nilSlice) (by kernel_rfl) hw
  obtain ⟨w2, hup, m2, hT2, hz2⟩ := h.drew.lines.update (P := Tryd.prog) (t := 54) Tryd.underlying3 Tryd.underlying54 hw (.slice (some ⟨b, off, none⟩) 0 0)
  have put := h.drew.put_line (w1 := w.drew) (w2 := w2) (v' := .slice (some ⟨b, off, none⟩) 0 0) (k := k) (t := []) (Turn.refl _ _) hs' (Or.inl (by rw [hv]; rfl)) m2 hT2 hz2
  have HP := Lib.hid put
  rw [hv] at hk hk2
  clear put m2 hT2 hz2 hs' hv
  go_enter Tryd.func22, Tryd.ntmps22
  go_wp2
  refine wp_region_plan (aF := ?aF) [12] [(0, 0), (1, 0), (2, 0), (3, 0), (4, 0), (5, 0), (6, 0), (7, 0), (8, 0), (9, 0), (10, 0), (11, 0), (12, 0)] [w.drew, w2] [?v0, ?v1, ?v2, ?v3, ?v4, ?v5, ?v6, ?v7, ?v8, ?v9, ?v10, .slice (some ⟨b, off, none⟩) 0 0, undef] (by kernel_rfl) (by kernel_rfl) ?hF rfl rfl rfl ?hob ?hend
  case hF => simp only [putAll, Act.put]; go_simp; rfl
  case hob =>
    repeat' (first
      | exact obls_nil
      | (refine obls_cons rfl rfl rfl ?_ ?_)
      | (apply Runs.skip rfl rfl; (focus (go_simp; try exact rfl)); exact rfl)
      | (apply Runs.value rfl; (focus (go_simp; try exact rfl)); exact rfl))
  case hend =>
    go_wp2
    go_ret2
    exact ⟨rfl, _, HP.out.1, (Step.refl g w).drew.trans HP.out.2⟩

set_option maxHeartbeats 1000000 in
theorem read_core2 (k : Int) (hw : (Lit.int .i64 k).wf = true) (h : Rep g S w) {s : Bytes} {rest : List Bytes} (b off cap : Nat) (hn0 : (((rest.length + 1 : Nat) : Int) == 0) = false) (hn1 : (0 : Int) < ((rest.length + 1 : Nat) : Int)) (hn2 : (1 : Int) ≤ (rest.length : Int) + 1) (hnc : rest.length + 1 ≤ cap) (hcap : ¬ cap = 1) (hv : (g.fl k).getD nilSlice = .slice (some ⟨b, off, none⟩) (rest.length + 1) cap)
    (hc0 : w.cell? ⟨b, off, none⟩ = some (.string ⟨s.toArray⟩)) (hs' : SliceAt w 9 1 (.slice (some ⟨b, off + 1, none⟩) rest.length (cap - 1)) (scells rest)) :
    Calls Tryd.prog 22 #[.pointer (some ⟨g.c, 0, none⟩), .int .i64 k] w (ReadPost g S w k s rest) := by
  obtain ⟨-, -, -, -, -, c5, -⟩ := block_cells h.blk
  have hk := h.lines.lookup (P := Tryd.prog) (t := 54) Tryd.underlying3 Tryd.underlying54 (z := nilSlice) (by kernel_rfl) hw
  have hk2 := h.drew.lines.lookup (P := Tryd.prog) (t := 54) Tryd.underlying3 Tryd.underlying54 (z := nilSlice) (by kernel_rfl) hw
  obtain ⟨w2, hup, m2, hT2, hz2⟩ := h.drew.lines.update (P := Tryd.prog) (t := 54) Tryd.underlying3 Tryd.underlying54 hw (.slice (some ⟨b, off + 1, none⟩) rest.length (cap - 1))
  have put := h.drew.put_line (w1 := w.drew) (w2 := w2) (v' := .slice (some ⟨b, off + 1, none⟩) rest.length (cap - 1)) (k := k) (t := rest) (Turn.refl _ _) hs' (Or.inl (by rw [hv]; rfl)) m2 hT2 hz2
  have HP := Lib.hid put
  rw [hv] at hk hk2
  clear put m2 hT2 hz2 hs' hv
  go_enter Tryd.func22, Tryd.ntmps22
  go_wp2
  refine wp_region_plan (aF := ?aF) [12] [(0, 0), (1, 0), (2, 0), (3, 0), (4, 0), (5, 0), (6, 0), (7, 0), (8, 0), (9, 0), (10, 0), (11, 0), (12, 0)] [w.drew, w2] [?v0, ?v1, ?v2, ?v3, ?v4, ?v5, ?v6, ?v7, ?v8, ?v9, ?v10, .slice (some ⟨b, off + 1, none⟩) rest.length (cap - 1), undef] (by kernel_rfl) (by kernel_rfl) ?hF rfl rfl rfl ?hob ?hend
  case hF => simp only [putAll, Act.put]; go_simp; rfl
  case hob =>
    repeat' (first
      | exact obls_nil
      | (refine obls_cons rfl rfl rfl ?_ ?_)
      | (apply Runs.skip rfl rfl; (focus (go_simp; try exact rfl)); exact rfl)
      | (apply Runs.value rfl; (focus (go_simp; try exact rfl)); exact rfl))
  case hend =>
    go_wp2
    go_ret2
    exact ⟨rfl, _, HP.out.1, (Step.refl g w).drew.trans HP.out.2⟩

theorem read_some (k : Int) (hw : (Lit.int .i64 k).wf = true) {c : Nat} (hc : g.c = c) (h : Rep g S w) {s : Bytes} {rest : List Bytes} (he : S.lines k = s :: rest) :
    Calls Tryd.prog 22 #[.pointer (some ⟨c, 0, none⟩), .int .i64 k] w (ReadPost g S w k s rest) := by
  subst hc
  obtain ⟨a, n, cap, hv, hl, hnc, hcm, -⟩ := (h.linesv k).1.form
  have hs := (h.linesv k).1
  rw [hv] at hs
  obtain rfl : n = rest.length + 1 := by rw [he] at hl; simp [scells] at hl; omega
  obtain ⟨b, off, rfl⟩ := hs.addr (by omega)
  have hc0 := hs.cells 0 (.string ⟨s.toArray⟩) (by rw [he]; rfl)
  rw [Nat.add_zero] at hc0
  have hx : (scells (S.lines k)).drop (1 * 1) = scells rest := by rw [he]; rfl
  by_cases hcap : cap = 1
  · have hr : rest = [] := List.eq_nil_of_length_eq_zero (by omega)
    subst hr
    subst hcap
    exact read_core1 k hw h b off hv hc0 hs.empty
  · have hd := hs.drop 1 (by omega)
    rw [hx] at hd
    exact read_core2 k hw h b off cap (by simp; omega) (by omega) (by omega) hnc hcap hv hc0 (by simpa using hd)
end
end Go.Con
