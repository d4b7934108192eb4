/-
  A []byte that came in, as a list of bytes.
-/
import Derived.Test.YtjdafmpkobelcaaDoorQConAwake
set_option linter.unusedVariables false

namespace Go.Con
open Go.Own Go.RowKit Go.Proofs

theorem u8_of {n : Int} (h : (Lit.int .u8 n).wf = true) : ((UInt8.ofNat n.toNat).toNat : Int) = n := by
  have hb : 0 ≤ n ∧ n ≤ 255 := by
    unfold Lit.wf at h
    rw [Bool.and_eq_true, decide_eq_true_eq, decide_eq_true_eq] at h
    have a : IntKind.u8.min = 0 := by rfl
    have b : IntKind.u8.max = 255 := by rfl
    rw [a, b] at h
    exact h
  rw [UInt8.toNat_ofNat_of_lt' (by simp [UInt8.size]; omega)]
  omega

theorem bytes_of_row {w : World} {a : Option Addr} {len cap : Nat} {zs : List Int}
    (h : (a = none ∧ len = 0 ∧ cap = 0 ∧ zs = []) ∨ ∃ x, a = some x ∧ len ≤ cap ∧ cap ≤ maxLen ∧ zs.length = cap ∧ (∀ i, i < zs.length → w.cell? (x.add i) = some (.int .u8 (zs.getD i 0))) ∧ ∀ n ∈ zs, (Lit.int .u8 n).wf = true) :
    ∃ l : Bytes, l.length = len ∧ (l = [] ∨ ∃ b off, a = some ⟨b, off, none⟩ ∧ ∀ i (h : i < l.length), w.cell? ⟨b, off + i, none⟩ = some (.int .u8 (l[i].toNat : Int))) := by
  rcases h with ⟨rfl, rfl, rfl, rfl⟩ | ⟨⟨b, off, spot⟩, rfl, hl, hm, hz, hcell, hwz⟩
  · exact ⟨[], rfl, .inl rfl⟩
  · refine ⟨(zs.take len).map fun n => UInt8.ofNat n.toNat, by simp; omega, ?_⟩
    by_cases h0 : len = 0
    · left; simp [h0]
    · right
      have hspot : spot = none := by
        have := hcell 0 (by omega)
        simpa [Addr.add] using World.cell?_spot this
      subst hspot
      refine ⟨b, off, rfl, fun i hi => ?_⟩
      have hi' : i < len := by simp at hi; omega
      have hc := hcell i (by omega)
      rw [Addr.add_lit] at hc
      rw [hc]
      have hil : i < zs.length := by omega
      have hg : zs.getD i 0 = zs[i] := by simp [List.getD, hil]
      rw [hg]
      simp only [List.getElem_map, List.getElem_take]
      rw [u8_of (hwz _ (List.getElem_mem hil))]
theorem BIn.of_old {g : Ghost} {w0 w1 : World} {a : Option Addr} {l : Bytes} (t1 : Turn (fun _ => False) w0 w1) (htag : ∀ k, k < w0.heap.size → g.ρ k = (0, 0))
    (hin : l = [] ∨ ∃ b off, a = some ⟨b, off, none⟩ ∧ ∀ i (h : i < l.length), w0.cell? ⟨b, off + i, none⟩ = some (.int .u8 (l[i].toNat : Int))) : BIn g.ρ w1 a l := by
  by_cases hl : l = []
  · exact .inl hl
  · obtain ⟨b, off, ha, hc⟩ := hin.resolve_left hl
    have h0 := hc 0 (List.length_pos_iff.2 hl)
    have hb := World.block_lt_of_cell? w0 _ h0
    exact .inr ⟨b, off, ha, by rw [htag b hb], Nat.lt_of_lt_of_le hb t1.size, fun i hi => by
      have hb' : (⟨b, off + i, none⟩ : Addr).block < w0.heap.size := hb
      rw [t1.cell (fun h => h) hb']; exact hc i hi⟩

end Go.Con
