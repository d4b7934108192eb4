/-
  The most that can be got: no program in sight.
-/
import Derived.Test.YtahfoejffibahaaStoPut
import Derived.Test.YtahfoejffibahaaStoFreeWords
import Derived.Test.YtahfoejffibahaaStoPure2
namespace Go.Sto

theorem largest_ge {S : St} {b : Blk} (hb : b ∈ S) (hu : b.used = false) : b.size - 1 ≤ largest S := by
  induction S with
  | nil => cases hb
  | cons c S ih =>
    simp only [largest]
    rcases List.mem_cons.1 hb with rfl | hb
    · rw [hu]; simp; omega
    · have := ih hb; omega

theorem largest_is {S : St} (h : largest S ≠ 0) : ∃ b ∈ S, b.used = false ∧ b.size - 1 = largest S := by
  induction S with
  | nil => simp [largest] at h
  | cons c S ih =>
    simp only [largest] at h ⊢
    by_cases hc : largest S ≤ (if c.used then 0 else c.size - 1)
    · rw [Nat.max_eq_left hc] at h ⊢
      cases hu : c.used with
      | true => simp [hu] at h
      | false => exact ⟨c, by simp, hu, by simp⟩
    · rw [Nat.max_eq_right (by omega)] at h ⊢
      obtain ⟨b, hb, h1, h2⟩ := ih h
      exact ⟨b, by simp [hb], h1, h2⟩

theorem free_zero {S : St} (h : ∀ b ∈ S, Good b) : largest S = 0 ↔ freeWords S = 0 := by
  induction S with
  | nil => simp [largest, freeWords]
  | cons c S ih =>
    have h1 := (h c (by simp)).two
    have h2 := ih fun b hb => h b (by simp [hb])
    simp only [largest, freeWords]
    cases c.used with
    | true => simp; exact h2
    | false => simp; omega

theorem get_over {n : Nat} {S : St} (h : Ok n S) : get S ((largest S : Nat) + 1 : Int) = (S, 0, 2) := by
  have hle : largest S ≤ 31999 := by
    by_cases h0 : largest S = 0
    · omega
    · obtain ⟨b, hb, -, h2⟩ := largest_is h0
      have := size_le hb
      have := h.le
      omega
  rw [get_model (by omega) (by omega)]
  have : hit (fits (need ((largest S : Nat) + 1 : Int))) 0 S = none := hit_none fun A y B e => by
    unfold fits
    cases hu : y.used with
    | true => rfl
    | false =>
      have hy : y ∈ S := by rw [e]; simp
      have h1 := largest_ge hy hu
      have h2 := (h.good y hy).even
      have h3 := (h.good y hy).two
      simp only [Bool.not_false, Bool.true_and, decide_eq_false_iff_not]
      unfold need
      by_cases h0 : largest S = 0
      · omega
      · obtain ⟨b, hb, -, h5⟩ := largest_is h0
        have h6 := (h.good b hb).even
        omega
  rw [this]

theorem get_most {n : Nat} {S : St} (h : Ok n S) (h0 : largest S ≠ 0) : ∃ S' a, get S (largest S : Nat) = (S', a, 0) ∧ 0 < a := by
  obtain ⟨b, hb, hu, h2⟩ := largest_is h0
  have h3 := size_le hb
  have h4 := h.le
  have h5 := (h.good b hb).even
  rw [get_model (by omega) (by omega)]
  cases hh : hit (fits (need (largest S : Nat))) 0 S with
  | none =>
    obtain ⟨A, B, e⟩ := List.append_of_mem hb
    have := of_hit_none hh e
    simp only [fits, hu, Bool.not_false, Bool.true_and, decide_eq_false_iff_not] at this
    unfold need at this
    omega
  | some i => exact ⟨_, _, rfl, by omega⟩

theorem get_02 {S : St} {k : Int} (h0 : 0 ≤ k) (h1 : k ≤ 32000) : (get S k).2.2 = 0 ∨ (get S k).2.2 = 2 := by
  rw [get_model h0 h1]
  cases hit (fits (need k)) 0 S <;> simp

theorem freeWords_take {S : St} {j : Nat} {b : Blk} (h : S[j]? = some b) : freeWords (S.take (j + 1)) = freeWords (S.take j) + (if b.used then 0 else b.size) := by
  rw [List.take_add_one, h, freeWords_append]; simp [freeWords]
end Go.Sto
