/-
  A block of the reference's store that is written in place.
-/
import Derived.Test.YtahfoejffibahaaQStoRSplit
import Derived.Test.YtahfoejffibahaaQStoPure1
set_option linter.unusedVariables false

namespace Go.Sto
open Go.Own Go.RowKit Go.Proofs

theorem rcells_set1 : ∀ {L : List RN} {i : Nat} {x y : RN}, L[i]? = some x → y.u = x.u → (rcells L).set (i * 2) y.val = rcells (L.set i y)
  | [], _, _, _, h, _ => by simp at h
  | z :: L, 0, x, y, h, hu => by
    simp only [List.getElem?_cons_zero, Option.some.injEq] at h
    subst h
    simp [rcells, rcell, hu, RN.val]
  | z :: L, i + 1, x, y, h, hu => by
    have ih := rcells_set1 (L := L) (i := i) (x := x) (y := y) (by simpa using h) hu
    have e : rcells (z :: L) = rcell z ++ rcells L := rfl
    have e2 : rcells ((z :: L).set (i + 1) y) = rcell z ++ rcells (L.set i y) := rfl
    rw [e, e2, ← ih, show (i + 1) * 2 = i * 2 + 2 by omega]
    rfl
theorem rcells_set2 : ∀ {L : List RN} {i : Nat} {y : RN}, i < L.length → ((rcells L).set (i * 2) y.val).set (i * 2 + 1) (.bool y.u) = rcells (L.set i y)
  | [], _, _, h => by simp at h
  | z :: L, 0, y, _ => by simp [rcells, rcell, RN.val]
  | z :: L, i + 1, y, h => by
    have ih := rcells_set2 (L := L) (i := i) (y := y) (by simpa using h)
    have e : rcells (z :: L) = rcell z ++ rcells L := rfl
    have e2 : rcells ((z :: L).set (i + 1) y) = rcell z ++ rcells (L.set i y) := rfl
    rw [e, e2, ← ih, show (i + 1) * 2 + 1 = i * 2 + 1 + 2 by omega, show (i + 1) * 2 = i * 2 + 2 by omega]
    rfl

section
variable {w w' : World} {g off n cap i : Nat} {L : List RN} {S : St} {x y : RN} {b' : Blk} {N : Nat}

/-- What reads where block i of a list is another. -/
theorem RC.poke (h : RC w (.slice (some ⟨g, off, none⟩) n cap) L S) (hs : SliceAt w' 108 2 (.slice (some ⟨g, off, none⟩) n cap) (rcells (L.set i y))) (t : Turn (fun k => k = g) w w')
    (hy : RBk w y b') (hyg : ∀ k, y.val.ownBlock = some k → k ≠ g) (hL : ∀ x ∈ L, ∀ k, x.val.ownBlock = some k → k ≠ g) : RC w' (.slice (some ⟨g, off, none⟩) n cap) (L.set i y) (S.set i b') := by
  refine ⟨hs, by simp [h.len], fun j z c h1 h2 => ?_⟩
  rw [List.getElem?_set] at h1 h2
  split at h1
  · rename_i hij
    subst hij
    rw [if_pos rfl] at h2
    split at h1
    · split at h2
      · cases h1; cases h2
        exact hy.keep fun k hk => t.block k (hy.lt k hk) (hyg k hk)
      · cases h2
    · cases h1
  · rename_i hij
    rw [if_neg hij] at h2
    have hk := h.blk j z c h1 h2
    exact hk.keep fun k e => t.block k (hk.lt k e) (hL z (List.mem_of_getElem? h1) k e)

theorem Ap.set (h : Ap N L) (h1 : ∀ k, y.val.ownBlock = some k → N ≤ k ∧ ∀ x ∈ L, x.val.ownBlock ≠ some k) : Ap N (L.set i y) := by
  refine ⟨fun z hz k hk => ?_, ?_⟩
  · rcases List.mem_or_eq_of_mem_set hz with hz | rfl
    · exact h.1 z hz k hk
    · exact (h1 k hk).1
  · have hp := h.2
    rw [List.pairwise_iff_getElem] at hp ⊢
    intro a c ha hc hac k hk hk2
    rw [List.length_set] at ha hc
    rw [List.getElem_set] at hk hk2
    split at hk
    · split at hk2
      · omega
      · exact (h1 k hk).2 _ (List.getElem_mem hc) hk2
    · split at hk2
      · exact (h1 k hk2).2 _ (List.getElem_mem ha) hk
      · exact hp a c ha hc hac k hk hk2
end

theorem set_self {S : St} {i : Nat} {b : Blk} (h : S[i]? = some b) : S.set i b = S := by
  apply List.ext_getElem?
  intro j
  rw [List.getElem?_set]
  split
  · rename_i e; subst e
    rw [if_pos (List.getElem?_eq_some_iff.1 h).1, h]
  · rfl
theorem take_set_drop {S : St} {i : Nat} {b c : Blk} (h : S[i]? = some b) : (S.set i c).take i = S.take i ∧ (S.set i c).drop (i + 1) = S.drop (i + 1) ∧ (S.set i c)[i]? = some c := by
  refine ⟨List.take_set_of_le (Nat.le_refl _), List.drop_set_of_lt (by omega), ?_⟩
  rw [List.getElem?_set, if_pos rfl, if_pos (List.getElem?_eq_some_iff.1 h).1]
theorem split_at {S : St} {i : Nat} {b : Blk} (h : S[i]? = some b) : S = S.take i ++ b :: S.drop (i + 1) := by
  have h1 := List.getElem?_eq_some_iff.1 h
  have h2 := List.drop_eq_getElem_cons h1.1
  rw [h1.2] at h2
  rw [← h2, List.take_append_drop]
theorem drop_at {S : St} {i : Nat} {b : Blk} (h : S[i]? = some b) : S.drop i = b :: S.drop (i + 1) := by
  have h1 := List.getElem?_eq_some_iff.1 h
  have h2 := List.drop_eq_getElem_cons h1.1
  rwa [h1.2] at h2
theorem Ok.slen {n : Nat} {S : St} (h : Ok n S) : S.length ≤ 16000 ∧ sz S ≤ 32000 ∧ (∀ b ∈ S, 0 < b.size ∧ b.size ≤ 32000) := by
  have h1 := h.hi
  have h2 := h.sum
  have h3 : ∀ T : St, (∀ b ∈ T, Good b) → 2 * T.length ≤ sz T := by
    intro T
    induction T with
    | nil => simp [sz]
    | cons a T ih =>
      intro hg
      have := ih (fun b hb => hg b (by simp [hb]))
      have := (hg a (by simp)).two
      simp only [sz, List.length_cons]; omega
  have h4 : ∀ T : St, ∀ b ∈ T, b.size ≤ sz T := by
    intro T
    induction T with
    | nil => simp
    | cons a T ih =>
      intro b hb
      simp only [sz]
      rcases List.mem_cons.1 hb with rfl | hb
      · omega
      · have := ih b hb; omega
  have := h3 S h.good
  exact ⟨by omega, by omega, fun b hb => ⟨by have := (h.good b hb).two; omega, by have := h4 S b hb; omega⟩⟩
end Go.Sto
