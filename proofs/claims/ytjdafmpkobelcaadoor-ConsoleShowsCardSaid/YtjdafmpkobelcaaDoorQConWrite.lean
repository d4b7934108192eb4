/-
  The console's Write, walked.
-/
import Derived.Test.YtjdafmpkobelcaaDoorQConOut
set_option linter.unusedVariables false

namespace Go.Con
open Go.Own Go.RowKit Go.Proofs

section
variable {g : Ghost} {S : CS} {w w' : World}

/-- A byte is put behind a task's own line: what the region's operations make of memory. -/
theorem Rep.put_byte (r : Rep g S w) (k : Nat) (h2 : k ≤ 99) (y : Nat) (b : UInt8) (hy : b.toNat = y) (hl : (S.out k).length < 80) :
    ∃ a0 n0 k0 pa pn pc w3 w4, (g.fo k).getD nilSlice = .slice a0 n0 k0 ∧ n0 = (S.out k).length ∧
      (Builtin.append_ #[26, 26] 26 #[.slice a0 n0 k0, .slice (some ⟨w.heap.size, 0, none⟩) 1 1]).run Tryd.prog (w.alloc (.cells #[.int .u8 (y : Int)] 5)).drew = .ok (.slice pa pn pc) w3 ∧
      (Instr.mapUpdate 56 (.map (some g.mo)) (.int .i64 k) (.slice pa pn pc)).run Tryd.prog w3 = .ok () w4 ∧
      w3.heap[g.c]? = some (.cells (conCells g S) 58 (0, 0)) ∧
      ∃ g', Rep g' { S with out := upd S.out k (S.out k ++ [b]) } w4 ∧ Step g g' w w4 := by
  obtain ⟨a0, n0, k0, hv0, hl0, -⟩ := (r.outv k).1.form
  rw [bcells_length, Nat.mul_one] at hl0
  have hwf : (Lit.int .i64 (k : Int)).wf = true := wf_i64 (by omega) (by omega)
  have r1 := (r.alloc (.cells #[.int .u8 (y : Int)] 5)).drew
  have hsl := (r1.outv k).1
  rw [hv0] at hsl
  obtain ⟨v', w3, happ, hv', hT, hown, -⟩ := run_append (P := Tryd.prog) (w.alloc (.cells #[.int .u8 (y : Int)] 5)).drew 26 26 26 5 1 1 (.int .u8 0) Tryd.underlying26 (.inr ⟨_, Tryd.underlying26⟩) elemU8
    (.slice a0 n0 k0) _ hsl (.slice (some ⟨w.heap.size, 0, none⟩) 1 1) 1 [.int .u8 (y : Int)] (Src.one (g := w.heap.size) (c := 1) rfl (heap_alloc_new w _)) (by intro u hu; simp at hu; subst hu; rfl) (by simp [bcells_length]; omega) (by simp [bcells_length]; omega)
  obtain ⟨pa, pn, pc, rfl, -⟩ := hv'.form
  have tk := fun q hq => (r1.outv k).2 q (by rw [hv0]; exact hq)
  have b1 := r1.block_after hT (fun hb => by have h1 := tk _ hb; rw [r.tc] at h1; cases h1)
  have m1 : MapAt w3 g.mo g.fo := r1.out.keep (hT.block g.mo r1.out.lt (fun hb => by have h1 := tk _ hb; rw [r.tot] at h1; cases h1))
  obtain ⟨w4, hup, m2, hT2, hz2⟩ := m1.update (P := Tryd.prog) (t := 56) Tryd.underlying3 Tryd.underlying56 hwf (.slice pa pn pc)
  have tB1 : Turn (fun j => ((g.fo k).getD nilSlice).ownBlock = some j) w w3 := ((Turn.refl _ w).alloc _).drew.trans (hT.mono fun j _ hj => by rw [hv0]; exact hj)
  have put := r.put_out (w1 := w3) (w2 := w4) (v' := .slice pa pn pc) (k := (k : Int)) (t := S.out k ++ [b]) tB1 (by rw [bcells_append, show bcells [b] = [.int .u8 (y : Int)] from by simp [bcells, hy]]; exact hv')
    (by
      rcases hown with hown | hown
      · left; left; rw [hown, hv0]
      · right; exact ⟨_, hown, by simp⟩) m2 hT2 hz2
  exact ⟨a0, n0, k0, pa, pn, pc, w3, w4, hv0, hl0.symm, happ, hup, b1, _, put⟩
end
end Go.Con
