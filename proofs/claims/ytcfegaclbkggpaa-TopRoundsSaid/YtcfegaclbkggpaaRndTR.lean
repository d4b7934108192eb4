/-
  A task as Tasks tells it, and a row of these.
-/
import Derived.Test.YtcfegaclbkggpaaRndIds
namespace Go.Rnd
open Go.Own Go.RowKit Go.Proofs

/-- A task as Tasks tells it. -/
structure TR where
  i : Nat
  pri : Int
  wt : Bool
  a : Option Addr
  n : Nat
  c : Nat
instance : Inhabited TR := ⟨⟨0, 0, false, none, 0, 0⟩⟩

def encT (x : TR) : List Value := [.int .i64 x.i, .int .i64 x.pri, .bool false, .bool x.wt, .int .i64 0, .int .i64 0, .slice x.a x.n x.c]
theorem nodup_small : ∀ (n : Nat) (l : List Nat), l.Nodup → (∀ x ∈ l, 1 ≤ x ∧ x ≤ n) → l.length ≤ n
  | 0, l, _, h => by
    cases l with
    | nil => simp
    | cons a l => have := h a (by simp); omega
  | n + 1, l, hn, h => by
    have h1 := nodup_small n (l.filter (fun x => x != n + 1)) (hn.sublist List.filter_sublist) (fun x hx => by
      simp only [List.mem_filter, bne_iff_ne] at hx
      have := h x hx.1
      omega)
    have h2 : l.length ≤ (l.filter (fun x => x != n + 1)).length + 1 := by
      clear h h1
      induction l with
      | nil => simp
      | cons a l ih =>
        obtain ⟨ha, hl⟩ := List.nodup_cons.1 hn
        by_cases e : a = n + 1
        · subst e
          have : l.filter (fun x => x != n + 1) = l := List.filter_eq_self.2 fun x hx => by
            have : x ≠ n + 1 := fun e => ha (e ▸ hx)
            simpa using this
          simp [this]
        · have := ih hl
          rw [List.filter_cons_of_pos (by simpa using e)]
          simp only [List.length_cons]
          omega
    omega

theorem elemTask : Elem Try.prog 55 7 64 (.agg #[.int .i64 0, .int .i64 0, .bool false, .bool false, .int .i64 0, .int .i64 0, .slice none 0 0]) := Elem.mk' (by kernel_rfl) rfl (by decide)

def tcells (l : List TR) : List Value := l.flatMap encT
theorem encT_length (x : TR) : (encT x).length = 7 := rfl
theorem tcells_cons (a : TR) (l : List TR) : tcells (a :: l) = encT a ++ tcells l := by simp [tcells]
theorem tcells_snoc (a : TR) (l : List TR) : tcells (l ++ [a]) = tcells l ++ encT a := by simp [tcells]
theorem tcells_length (l : List TR) : (tcells l).length = l.length * 7 := by
  induction l with
  | nil => rfl
  | cons a l ih => rw [tcells_cons, List.length_append, ih, encT_length]; simp; omega

theorem tcells_get : ∀ (l : List TR) (t : Nat), t < l.length * 7 → (tcells l)[t]? = some ((encT l[t / 7]!)[t % 7]!)
  | [], t, h => by simp at h
  | a :: l, t, h => by
    rw [tcells_cons, List.getElem?_append, encT_length]
    by_cases ht : t < 7
    · rw [if_pos ht, Nat.div_eq_of_lt ht, Nat.mod_eq_of_lt ht]
      have : t < (encT a).length := by rw [encT_length]; exact ht
      rw [List.getElem?_eq_getElem this]
      simp [this]
    · rw [if_neg ht, tcells_get l (t - 7) (by simp at h; omega)]
      have e1 : t / 7 = (t - 7) / 7 + 1 := by omega
      have e2 : t % 7 = (t - 7) % 7 := by omega
      rw [e1, e2]
      simp

end Go.Rnd
