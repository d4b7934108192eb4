/-
  The row of the tasks, ahead of the sort and behind it.
-/
import Derived.Test.YtcfegaclbkggpaaRndSort
namespace Go.Rnd
open Go.Own Go.RowKit Go.Proofs Go.Sort

theorem holds_of_slice {w : World} {e : TypeId} {blk off n cap : Nat} {l : List TR} (h : SliceAt w e 7 (.slice (some ⟨blk, off, none⟩) n cap) (tcells l)) : HoldsK encT 7 w blk off l.toArray := by
  intro j hj
  have hj' := hj
  rw [size_flatK] at hj'
  refine ⟨?_, h.frozen _⟩
  rw [get_flatK _ _ _ _ hj']
  exact h.cells j _ (by rw [tcells_get l j (by simpa using hj')]; simp)

theorem slice_sorted {w : World} {e : TypeId} {blk off n cap k : Nat} {l : List TR} {d' : Array TR} {os : Array Obj} (h : SliceAt w e 7 (.slice (some ⟨blk, off, none⟩) n cap) (tcells l)) (hs : d'.size = l.length) :
    SliceAt (sortWorldK encT 7 w blk off k d' os) e 7 (.slice (some ⟨blk, off, none⟩) n cap) (tcells d'.toList) ∧ Turn (fun b => b = blk) w (sortWorldK encT 7 w blk off k d' os) := by
  rcases h with ⟨h, -⟩ | ⟨g', off', n', cap', cur, hv, hg, hl, hn, hm, hz, hx⟩
  · cases h
  · cases hv
    have hlt := heap_lt hg
    rw [tcells_length] at hl
    have hn7 : l.length = n := by omega
    constructor
    · refine .inr ⟨blk, off, n, cap, putCells id off (flatK encT 7 d') cur, rfl, ?_, by rw [tcells_length]; simp; omega, hn, hm, by simpa [putCells] using hz, ?_⟩
      · have : (Sort.ahead w k).heap[blk]? = some (.cells cur e (0, 0)) := hg
        simp only [sortWorldK, putRowK, grow, putRow, mapBlock, Array.getElem?_append, Array.size_modify, Array.getElem?_modify]
        rw [if_pos (by exact hlt), if_pos trivial, this]
        rfl
      · apply List.ext_getElem?
        intro j
        rw [List.getElem?_take]
        by_cases hj : j < n * 7
        · rw [if_pos hj, tcells_get _ _ (by simp; omega)]
          have hc : off + j < cur.size := by
            have := Nat.mul_le_mul_right 7 hn
            omega
          have hfl : off + j < off + (flatK encT 7 d').size := by rw [size_flatK]; omega
          simp only [putCells, Array.toList_mapIdx, List.getElem?_drop, List.getElem?_mapIdx, Array.getElem?_toList]
          rw [Array.getElem?_eq_getElem hc, Option.map_some, if_pos ⟨by omega, hfl⟩, Nat.add_sub_cancel_left, get_flatK _ _ _ _ (by omega)]
          have hd : j / 7 < d'.size := by omega
          rw [getElem!_pos d' _ hd, getElem!_pos d'.toList _ (by simpa using hd)]
          simp
        · rw [if_neg hj, List.getElem?_eq_none (by rw [tcells_length]; simp; omega)]
    · refine ⟨rfl, rfl, rfl, ?_, fun b hb hne => ?_⟩
      · show w.heap.size ≤ (sortWorldK encT 7 w blk off k d' os).heap.size
        simp [sortWorldK, putRowK, Sort.ahead]
      · have hne' : blk ≠ b := fun e => hne e.symm
        simp only [sortWorldK, putRowK, grow, putRow, mapBlock, Array.getElem?_append, Array.size_modify, Array.getElem?_modify]
        rw [if_pos (by exact hb), if_neg hne']
        rfl

theorem perm_of_in {d d' : Array TR} (h : PermIn 0 d.size d d') : d'.toList.Perm d.toList ∧ d'.size = d.size := by
  obtain ⟨h1, -, h3⟩ := h
  refine ⟨?_, h1⟩
  have e1 : d'.extract 0 d.size = d' := by rw [← h1]; simp
  have e2 : d.extract 0 d.size = d := by simp
  rw [e1, e2] at h3
  exact h3

/-- The row of the tasks is sorted. -/
theorem sorted_calls {w : World} {v : Value} {l : List TR} (h : SliceAt w 55 7 v (tcells l)) (hl : l.length < 1000) (hne : l ≠ []) :
    Calls Try.prog 28 #[v, .func (.func 29) #[] #[]] w fun e w' => e = .returned (.tuple #[]) ∧ ∃ l', l'.Perm l ∧ SliceAt w' 55 7 v (tcells l') ∧ Turn (fun b => v.ownBlock = some b) w w' := by
  have h0 := h
  rcases h with ⟨rfl, hnil⟩ | ⟨g', off, n, cap, cur, rfl, hg, hlen, hn, hm, hz, hx⟩
  · have hl0 : l = [] := by
      have := tcells_length l
      rw [hnil] at this
      exact List.eq_nil_of_length_eq_zero (by simp at this; omega)
    exact absurd hl0 hne
  · have hnl : n = l.toArray.size := by
      rw [tcells_length] at hlen
      simp; omega
    have := sort_calls g' off cap l.toArray w (holds_of_slice h0) (heap_lt hg) (by simpa using hl)
    rw [hnl]
    refine this.mono ?_
    rintro e w' ⟨rfl, d', m, os, hp, rfl⟩
    obtain ⟨p1, p2⟩ := perm_of_in hp
    rw [hnl] at h0
    obtain ⟨s1, s2⟩ := slice_sorted (k := m) (os := os) h0 (by simpa using p2)
    refine ⟨rfl, d'.toList, by simpa using p1, s1, s2.mono fun b _ hb => ?_⟩
    subst hb
    rfl
end Go.Rnd
