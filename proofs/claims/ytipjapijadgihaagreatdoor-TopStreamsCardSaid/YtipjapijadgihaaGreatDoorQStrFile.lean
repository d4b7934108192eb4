/-
  The files' row: what a File is, and its sort.
-/
import Derived.Shelf.SlSortCmp.WholeK
import Derived.Ground.SlsfProg
import Derived.Test.YtipjapijadgihaaGreatDoorQStrKeys
set_option linter.unusedVariables false

namespace Go.Str
open Go.Own Go.RowKit Go.Proofs Go.Shelf Go.Sort

shelf_lay_g SlLaysF0.n6 Slsf 6 at Tryz 42 as Str.sortLay

/-- A File as Files tells it: one of the three names, and a slice. -/
structure FE where
  i : Fin 3
  a : Option Addr
  n : Nat
  c : Nat
instance : Inhabited FE := ⟨⟨0, none, 0, 0⟩⟩
def nameF (i : Fin 3) : Bytes := if i = 0 then nOne else if i = 1 then nSub else nThree

def encF (x : FE) : List Value := [.string (bs (nameF x.i)), .slice x.a x.n x.c]
theorem elemFile : Elem Tryz.prog 48 2 40 (.agg #[.string ByteArray.empty, .slice none 0 0]) := Elem.mk' (by kernel_rfl) rfl (by decide)
def fcells (l : List FE) : List Value := l.flatMap encF
theorem encF_length (x : FE) : (encF x).length = 2 := rfl
theorem fcells_cons (a : FE) (l : List FE) : fcells (a :: l) = encF a ++ fcells l := by simp [fcells]
theorem fcells_snoc (a : FE) (l : List FE) : fcells (l ++ [a]) = fcells l ++ encF a := by simp [fcells]
theorem fcells_length (l : List FE) : (fcells l).length = l.length * 2 := by
  induction l with
  | nil => rfl
  | cons a l ih => rw [fcells_cons, List.length_append, ih, encF_length]; simp; omega

theorem fcells_get : ∀ (l : List FE) (t : Nat), t < l.length * 2 → (fcells l)[t]? = some ((encF l[t / 2]!)[t % 2]!)
  | [], t, h => by simp at h
  | a :: l, t, h => by
    rw [fcells_cons, List.getElem?_append, encF_length]
    by_cases ht : t < 2
    · rw [if_pos ht, Nat.div_eq_of_lt ht, Nat.mod_eq_of_lt ht]
      have : t < (encF a).length := by rw [encF_length]; exact ht
      rw [List.getElem?_eq_getElem this]
      simp [this]
    · rw [if_neg ht, fcells_get l (t - 2) (by simp at h; omega)]
      have e1 : t / 2 = (t - 2) / 2 + 1 := by omega
      have e2 : t % 2 = (t - 2) % 2 := by omega
      rw [e1, e2]
      simp


def cmpF (x y : FE) : Int := if x.i < y.i then -1 else if y.i < x.i then 1 else 0

theorem ltF (x y : FE) : ltOf cmpF x y = decide (x.i < y.i) := by
  unfold ltOf cmpF
  by_cases h1 : x.i < y.i
  · simp [h1]
  · by_cases h2 : y.i < x.i <;> simp [h1, h2]

theorem nan_calls (x : ByteArray) (w : World) : Calls Tryz.prog 82 #[.string x] w fun e w' => e = .returned (.bool false) ∧ w' = w := by
  go_enter Tryz.func82, Tryz.ntmps82
  go_wp2
  go_ret
  exact ⟨by simp, rfl⟩

theorem less_run : ∀ (i j : Fin 3), Op.bytesLess (nameF i) (nameF j) = decide (i < j) := by decide
theorem gtr_b : ∀ (i j : Fin 3), (!(Op.bytesLess (nameF i) (nameF j) || (nameF i == nameF j))) = decide (j < i) := by decide
theorem gtr_run (i j : Fin 3) (w : World) : (binOp .gtr 9 (.string (bs (nameF i))) (.string (bs (nameF j)))).run Tryz.prog w = .ok (.bool (decide (j < i))) w := by
  rw [← gtr_b i j]
  show Sem.run _ (Op.stringOp .gtr (bs (nameF i)) (bs (nameF j))) w = _
  unfold Op.stringOp bs
  rw [bs_toList, bs_toList]
  rfl

set_option maxHeartbeats 1000000 in
theorem compare_calls (i j : Fin 3) (w : World) : Calls Tryz.prog 44 #[.string (bs (nameF i)), .string (bs (nameF j))] w fun e w' => e = .returned (.int .i64 (if i < j then -1 else if j < i then 1 else 0)) ∧ w' = w := by
  have q1 := less_run i j
  have q2 := gtr_run i j
  by_cases h1 : i < j
  · rw [if_pos h1]
    rw [decide_eq_true h1] at q1
    clear h1 q2
    generalize nameF i = x at *
    generalize nameF j = y at *
    go_enter Tryz.func44, Tryz.ntmps44
    go_wp2_with (go_at_call 82; refine (nan_calls _ _).mono ?_; rintro e6 w6 ⟨rfl, rfl⟩)
    go_ret
    exact ⟨rfl, rfl⟩
  · rw [if_neg h1]
    rw [decide_eq_false h1] at q1
    by_cases h2 : j < i
    · rw [if_pos h2]
      rw [decide_eq_true h2] at q2
      clear h1 h2
      generalize nameF i = x at *
      generalize nameF j = y at *
      go_enter Tryz.func44, Tryz.ntmps44
      go_wp2_with (go_at_call 82; refine (nan_calls _ _).mono ?_; rintro e6 w6 ⟨rfl, rfl⟩)
      go_ret
      exact ⟨rfl, rfl⟩
    · rw [if_neg h2]
      rw [decide_eq_false h2] at q2
      clear h1 h2
      generalize nameF i = x at *
      generalize nameF j = y at *
      go_enter Tryz.func44, Tryz.ntmps44
      go_wp2_with (go_at_call 82; refine (nan_calls _ _).mono ?_; rintro e6 w6 ⟨rfl, rfl⟩)
      go_ret
      exact ⟨rfl, rfl⟩

end Go.Str

/-
  The sort of the files' row: its closure, and what the row holds behind it.
-/
namespace Go.Str
open Go.Own Go.RowKit Go.Proofs Go.Shelf Go.Sort

set_option maxHeartbeats 1000000 in
theorem closure_calls (x y : FE) (W : World) : Calls Tryz.prog 43 #[.agg (encF x).toArray, .agg (encF y).toArray] W fun e w' => e = .returned (.int .i64 (cmpF x y)) ∧ ∃ q os, w' = grow (W.drewN q) os := by
  have hcon := fun W' => compare_calls x.i y.i W'
  unfold cmpF
  generalize (if x.i < y.i then (-1 : Int) else if y.i < x.i then 1 else 0) = r at hcon ⊢
  simp only [encF]
  generalize bs (nameF x.i) = s1 at hcon ⊢
  generalize bs (nameF y.i) = s2 at hcon ⊢
  go_enter Tryz.func43, Tryz.ntmps43
  go_wp2_with (go_at_call 44; refine (hcon _).mono ?_; rintro e w' ⟨rfl, rfl⟩)
  go_ret
  exact ⟨rfl, 0, _, by rw [alloc_eq_grow, alloc_eq_grow, grow_grow]; rfl⟩

theorem cmpLays (blk off size : Nat) (w : World) : CmpLays Tryz.prog 43 #[] encF 2 cmpF blk off size w :=
  fun _ _ _ _ x y => closure_calls x y _

theorem swoF : SWO (ltOf cmpF) where
  irrefl x := by rw [ltF]; simp
  trans x y z h1 h2 := by rw [ltF] at *; simp at *; exact Fin.lt_trans h1 h2
  ntrans x y z h1 h2 := by rw [ltF] at *; simp at *; exact Fin.le_trans h2 h1

theorem sort_calls (blk off cap : Nat) (d : Array FE) (w : World) (hH : HoldsK encF 2 w blk off d) (hblk : blk < w.heap.size) (hsz : d.size < 1000) :
    Calls Tryz.prog 42 #[.slice (some ⟨blk, off, none⟩) d.size cap, .func (.func 43) #[] #[]] w fun e w' =>
      e = .returned (.tuple #[]) ∧ ∃ d' n os, PermIn 0 d.size d d' ∧ w' = sortWorldK encF 2 w blk off n d' os := by
  have eg : ∀ args w, (callFunc 43 args).run Tryz.prog w = .ok (.enter 43 args) w := enters_of Tryz.func43 (by kernel_rfl) rfl
  have h := AnyQ.slices_SortFunc Str.sortLay 2 Tryz.isAgg48 Tryz.sizeOf48 encF (fun _ => rfl) (fun x v hv => by simp [encF] at hv; rcases hv with rfl | rfl <;> rfl) cmpF swoF 43 #[] blk off cap d w eg (cmpLays _ _ _ _) hH hblk (by omega)
  refine h.mono ?_
  rintro e w' ⟨rfl, d', n, os, hp, -, hw⟩
  exact ⟨rfl, d', n, os, hp, hw⟩
theorem holds_of_slice {w : World} {e : TypeId} {blk off n cap : Nat} {l : List FE} (h : SliceAt w e 2 (.slice (some ⟨blk, off, none⟩) n cap) (fcells l)) : HoldsK encF 2 w blk off l.toArray := by
  intro j hj
  have hj' := hj
  rw [size_flatK] at hj'
  refine ⟨?_, h.frozen _⟩
  rw [get_flatK _ _ _ _ hj']
  exact h.cells j _ (by rw [fcells_get l j (by simpa using hj')]; simp)

theorem slice_sorted {w : World} {e : TypeId} {blk off n cap k : Nat} {l : List FE} {d' : Array FE} {os : Array Obj} (h : SliceAt w e 2 (.slice (some ⟨blk, off, none⟩) n cap) (fcells l)) (hs : d'.size = l.length) :
    SliceAt (sortWorldK encF 2 w blk off k d' os) e 2 (.slice (some ⟨blk, off, none⟩) n cap) (fcells d'.toList) ∧ Turn (fun b => b = blk) w (sortWorldK encF 2 w blk off k d' os) := by
  rcases h with ⟨h, -⟩ | ⟨g', off', n', cap', cur, hv, hg, hl, hn, hm, hz, hx⟩
  · cases h
  · cases hv
    have hlt := heap_lt hg
    rw [fcells_length] at hl
    have hn2 : l.length = n := by omega
    constructor
    · refine .inr ⟨blk, off, n, cap, putCells id off (flatK encF 2 d') cur, rfl, ?_, by rw [fcells_length]; simp; omega, hn, hm, by simpa [putCells] using hz, ?_⟩
      · have : (Sort.ahead w k).heap[blk]? = some (.cells cur e (0, 0)) := hg
        simp only [sortWorldK, putRowK, grow, putRow, mapBlock, Array.getElem?_append, Array.size_modify, Array.getElem?_modify]
        rw [if_pos (by exact hlt), if_pos trivial, this]
        rfl
      · apply List.ext_getElem?
        intro j
        rw [List.getElem?_take]
        by_cases hj : j < n * 2
        · rw [if_pos hj, fcells_get _ _ (by simp; omega)]
          have hc : off + j < cur.size := by
            have := Nat.mul_le_mul_right 2 hn
            omega
          have hfl : off + j < off + (flatK encF 2 d').size := by rw [size_flatK]; omega
          simp only [putCells, Array.toList_mapIdx, List.getElem?_drop, List.getElem?_mapIdx, Array.getElem?_toList]
          rw [Array.getElem?_eq_getElem hc, Option.map_some, if_pos ⟨by omega, hfl⟩, Nat.add_sub_cancel_left, get_flatK _ _ _ _ (by omega)]
          have hd : j / 2 < d'.size := by omega
          rw [getElem!_pos d' _ hd, getElem!_pos d'.toList _ (by simpa using hd)]
          simp
        · rw [if_neg hj, List.getElem?_eq_none (by rw [fcells_length]; simp; omega)]
    · refine ⟨rfl, rfl, rfl, ?_, fun b hb hne => ?_⟩
      · show w.heap.size ≤ (sortWorldK encF 2 w blk off k d' os).heap.size
        simp [sortWorldK, putRowK, Sort.ahead]
      · have hne' : blk ≠ b := fun e => hne e.symm
        simp only [sortWorldK, putRowK, grow, putRow, mapBlock, Array.getElem?_append, Array.size_modify, Array.getElem?_modify]
        rw [if_pos (by exact hb), if_neg hne']
        rfl

theorem perm_of_in {d d' : Array FE} (h : PermIn 0 d.size d d') : d'.toList.Perm d.toList ∧ d'.size = d.size := by
  obtain ⟨h1, -, h3⟩ := h
  refine ⟨?_, h1⟩
  have e1 : d'.extract 0 d.size = d' := by rw [← h1]; simp
  have e2 : d.extract 0 d.size = d := by simp
  rw [e1, e2] at h3
  exact h3

/-- The row of the tasks is sorted. -/
theorem sorted_calls {w : World} {v : Value} {l : List FE} (h : SliceAt w 48 2 v (fcells l)) (hl : l.length < 1000) (hne : l ≠ []) :
    Calls Tryz.prog 42 #[v, .func (.func 43) #[] #[]] w fun e w' => e = .returned (.tuple #[]) ∧ ∃ l', l'.Perm l ∧ SliceAt w' 48 2 v (fcells l') ∧ Turn (fun b => v.ownBlock = some b) w w' := by
  have h0 := h
  rcases h with ⟨rfl, hnil⟩ | ⟨g', off, n, cap, cur, rfl, hg, hlen, hn, hm, hz, hx⟩
  · have hl0 : l = [] := by
      have := fcells_length l
      rw [hnil] at this
      exact List.eq_nil_of_length_eq_zero (by simp at this; omega)
    exact absurd hl0 hne
  · have hnl : n = l.toArray.size := by
      rw [fcells_length] at hlen
      simp; omega
    have := sort_calls g' off cap l.toArray w (holds_of_slice h0) (heap_lt hg) (by simpa using hl)
    rw [hnl]
    refine this.mono ?_
    rintro e w' ⟨rfl, d', m, os, hp, rfl⟩
    obtain ⟨p1, p2⟩ := perm_of_in hp
    rw [hnl] at h0
    obtain ⟨s1, s2⟩ := slice_sorted (k := m) (os := os) h0 (by simpa using p2)
    refine ⟨rfl, d'.toList, by simpa using p1, s1, s2.mono fun b _ hb => ?_⟩
    subst hb
    rfl
end Go.Str
