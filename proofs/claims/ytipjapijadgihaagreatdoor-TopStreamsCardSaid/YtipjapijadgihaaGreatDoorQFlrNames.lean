/-
  Names: isName, names.
-/
import Derived.Lib.SplitLaws
import Derived.Test.YtipjapijadgihaaGreatDoorQFlrFind
set_option linter.unusedVariables false

namespace Go.Flr
open Go.Own Go.RowKit Go.Proofs

/-- The letters of names. -/
def lName : Bytes := [97, 98, 99, 100, 101, 102, 103, 104, 105, 106, 107, 108, 109, 110, 111, 112, 113, 114, 115, 116, 117, 118, 119, 120, 121, 122, 48, 49, 50, 51, 52, 53, 54, 55, 56, 57, 46, 45, 95]
def isNameL (l : Bytes) : Bool := decide (1 ≤ l.length) && decide (l.length ≤ 24) && (Lib.trimS l lName == [])
theorem isNameL_len {l : Bytes} (h : isNameL l = true) : 1 ≤ l.length ∧ l.length ≤ 24 := by
  unfold isNameL at h
  rw [Bool.and_eq_true, Bool.and_eq_true, decide_eq_true_eq, decide_eq_true_eq] at h
  exact ⟨h.1.1, h.1.2⟩

/-- A path taken apart. -/
def splitL (p : Bytes) : List Bytes := (Lib.splitB (bs [47]) 0 (Lib.countB (bs p) (bs [47])) (bs p)).map (·.data.toList)
theorem splitL_length (p : Bytes) : (splitL p).length = Lib.countB (bs p) (bs [47]) + 1 := by
  unfold splitL
  rw [List.length_map, Lib.splitB_all _ (by decide) _ _ _ rfl]
def scells (l : List Bytes) : List Value := l.map fun s => Value.string (bs s)
@[simp] theorem scells_length (l : List Bytes) : (scells l).length = l.length := by simp [scells]
theorem scells_split (p : Bytes) : (Lib.splitB (bs [47]) 0 (Lib.countB (bs p) (bs [47])) (bs p)).map Value.string = scells (splitL p) := by
  unfold scells splitL
  rw [List.map_map]
  apply List.map_congr_left
  intro x _
  rfl

section
variable {w : World}

set_option maxRecDepth 10000 in
set_option maxHeartbeats 1000000 in
theorem isName_calls (l : Bytes) (hl : l.length ≤ 100000) : Calls Tryz.prog 92 #[.string (bs l)] w fun e w' => e = .returned (.bool (isNameL l)) ∧ Turn (fun _ => False) w w' := by
  have hz := bs_size l
  by_cases h1 : 1 ≤ l.length
  · by_cases h2 : l.length ≤ 24
    · have hc := Lib.hid (trim_c (w := w) (bs l) (bs lName) (by rw [bs_size]; omega) (by decide) (by decide))
      have q1 : decide (1 ≤ (l.length : Int)) = true := decide_eq_true (by omega)
      have q2 : decide ((l.length : Int) ≤ 24) = true := decide_eq_true (by omega)
      obtain ⟨t, ht⟩ : ∃ t, Lib.trimS l lName = t := ⟨_, rfl⟩
      have he : isNameL l = (t == []) := by unfold isNameL; rw [ht]; simp [h1, h2]
      rw [he]
      have ht' : Lib.trimS (bs l).data.toList (bs lName).data.toList = t := ht
      rw [ht'] at hc
      clear he ht ht'
      cases t with
      | nil =>
        go_enter Tryz.func92, Tryz.ntmps92
        go_wp2_with fail
        refine hc.out.mono ?_
        rintro e1 w1 ⟨rfl, T1⟩
        have HT := Lib.hid T1
        clear T1
        go_wp2_with fail
        go_ret
        exact ⟨rfl, HT.out⟩
      | cons x r =>
        go_enter Tryz.func92, Tryz.ntmps92
        go_wp2_with fail
        refine hc.out.mono ?_
        rintro e1 w1 ⟨rfl, T1⟩
        have HT := Lib.hid T1
        clear T1
        have t1 := bs_toList (x :: r)
        go_wp2_with fail
        go_ret
        exact ⟨rfl, HT.out⟩
    · have he : isNameL l = false := by unfold isNameL; simp [h2]
      rw [he]
      have q1 : decide (1 ≤ (l.length : Int)) = true := decide_eq_true (by omega)
      have q2 : decide ((l.length : Int) ≤ 24) = false := decide_eq_false (by omega)
      clear he
      go_enter Tryz.func92, Tryz.ntmps92
      go_wp2_with fail
      go_ret
      exact ⟨rfl, Turn.refl _ _⟩
  · have he : isNameL l = false := by unfold isNameL; simp [h1]
    rw [he]
    have q1 : decide (1 ≤ (l.length : Int)) = false := decide_eq_false (by omega)
    clear he
    go_enter Tryz.func92, Tryz.ntmps92
    go_wp2_with fail
    go_ret
    exact ⟨rfl, Turn.refl _ _⟩

set_option maxRecDepth 10000 in
set_option maxHeartbeats 1000000 in
theorem names_ok (p : Bytes) (hp : p ≠ []) (hl : p.length ≤ 1000) (hE : Env w) (ha : ∀ s ∈ splitL p, isNameL s = true) :
    Calls Tryz.prog 54 #[.string (bs p)] w fun e w' => ∃ v, e = .returned (.tuple #[v, .nilIface]) ∧ SliceAt w' 9 1 v (scells (splitL p)) ∧ Turn (fun _ => False) w w' := by
  have hz := bs_size p
  have hS := split_c (w := w) (bs p) (bs [47]) (by rw [bs_size]; omega) (by decide) hE
  obtain ⟨n, hn⟩ : ∃ n, Lib.countB (bs p) (bs [47]) + 1 = n := ⟨_, rfl⟩
  have hsl : (splitL p).length = n := by rw [splitL_length, hn]
  rw [hn, scells_split] at hS
  have hnm : n ≤ 1001 := by have := Lib.countB_le (bs [47]) (by decide) (bs p).size (bs p) (Nat.le_refl _); omega
  obtain ⟨W, hW⟩ : ∃ W, w.alloc (.cells (scells (splitL p)).toArray 9) = W := ⟨_, rfl⟩
  rw [hW] at hS
  have T0 : Turn (fun _ => False) w W := by rw [← hW]; exact (Turn.refl _ w).alloc _
  have hA : SliceAt W 9 1 (.slice (some ⟨w.heap.size, 0, none⟩) n n) (scells (splitL p)) := by
    have := SliceAt.made (w := W) (e := 9) (sz := 1) (g := w.heap.size) (n := n) (cur := (scells (splitL p)).toArray) (by rw [← hW]; exact heap_alloc_new w _) (by simp [hsl]) (by unfold maxLen; omega)
    simpa using this
  have t1 := bs_toList p
  have t2 : p.isEmpty = false := by cases p with | nil => exact absurd rfl hp | cons _ _ => rfl
  obtain ⟨q, hq⟩ : ∃ q, w.heap.size = q := ⟨_, rfl⟩
  rw [hq] at hS hA
  have HS := Lib.hid hS
  have H := Lib.hid (And.intro hA (And.intro T0 (And.intro hsl ha)))
  clear hS hA T0 hsl ha hW hn hp hq
  go_enter Tryz.func54, Tryz.ntmps54
  go_wp2_with fail
  refine HS.out.mono ?_
  rintro e1 w1 ⟨rfl, rfl⟩
  go_wp2_with fail
  go_loopg [13] (n) (fun gk iv wr => ∃ i : Nat, gk + i = n ∧ iv = .int .i64 i ∧ Turn (fun _ => False) w1 wr)
  case atStart => exact ⟨0, rfl, rfl, Turn.refl _ _⟩
  case round =>
    obtain ⟨i, hgk, rfl, hT⟩ := hrel
    by_cases hi : i < n
    · have hil : i < (splitL p).length := by rw [H.out.2.2.1]; exact hi
      have hc : wr.cell? ⟨q, i, none⟩ = some (.string (bs ((splitL p)[i]))) := by
        have := (H.out.1.turn hT (fun _ _ e => e)).cells i (.string (bs ((splitL p)[i]))) (by unfold scells; rw [List.getElem?_map, List.getElem?_eq_getElem hil]; rfl)
        rwa [Nat.zero_add] at this
      have hnm1 := H.out.2.2.2 _ (List.getElem_mem hil)
      obtain ⟨s, hs⟩ : ∃ s, (splitL p)[i] = s := ⟨_, rfl⟩
      rw [hs] at hc hnm1
      have hCN := isName_calls (w := wr) s (by have := isNameL_len hnm1; omega)
      rw [hnm1] at hCN
      have HN := Lib.hid hCN
      have HT := Lib.hid (And.intro hT hgk)
      clear hT hgk hCN hnm1 hs hil
      go_wp2_with fail
      refine HN.out.mono ?_
      rintro e2 w2 ⟨rfl, T2⟩
      have HT2 := Lib.hid (HT.out.1.trans T2)
      clear T2 hc
      go_wp2_with fail
      have hgk := HT.out.2
      go_roundg (gk - 1)
      case rel => exact ⟨i + 1, by omega, by rfl, HT2.out⟩
      case measure => omega
    · have HT := Lib.hid hT
      clear hT
      go_wp2_with fail
      go_ret2
      exact ⟨_, rfl, H.out.1.turn HT.out (fun _ _ e => e), H.out.2.1.trans HT.out⟩
end
end Go.Flr
