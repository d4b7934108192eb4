/-
  The plain law of the store's list: what each call keeps.
-/
import Derived.Test.YtahfoejffibahaaStoFree
namespace Go.Sto

theorem take_left (A : St) (x : Blk) (B : St) : (A ++ x :: B).take A.length = A := by simp
theorem drop_left (A : St) (x : Blk) (B : St) : (A ++ x :: B).drop A.length = x :: B := by simp

/-! ### Norm -/

theorem Norm.tail {a : Blk} {S : St} (h : Norm (a :: S)) : Norm S := by
  cases S with
  | nil => trivial
  | cons b S => exact h.2

theorem norm_cons {a : Blk} {S : St} : Norm (a :: S) ↔ (∀ b R, S = b :: R → ¬ (a.used = false ∧ b.used = false)) ∧ Norm S := by
  cases S with
  | nil => simp [Norm]
  | cons b R =>
    simp only [Norm]
    constructor
    · rintro ⟨h1, h2⟩; exact ⟨fun b' R' e => by cases e; exact h1, h2⟩
    · rintro ⟨h1, h2⟩; exact ⟨h1 b R rfl, h2⟩

theorem norm_append {A B : St} : Norm (A ++ B) ↔ Norm A ∧ Norm B ∧ ∀ A' a b B', A = A' ++ [a] → B = b :: B' → ¬ (a.used = false ∧ b.used = false) := by
  induction A with
  | nil => simp [Norm]
  | cons c A ih =>
    rw [List.cons_append, norm_cons, norm_cons, ih]
    constructor
    · rintro ⟨h1, h2, h3, h4⟩
      refine ⟨⟨fun b R e => h1 b (R ++ B) (by rw [e]; rfl), h2⟩, h3, fun A' a b B' e1 e2 => ?_⟩
      cases A' with
      | nil => cases e1; exact h1 b B' (by rw [e2]; rfl)
      | cons d A' => cases e1; exact h4 A' a b B' rfl e2
    · rintro ⟨⟨h1, h2⟩, h3, h4⟩
      refine ⟨fun b R e => ?_, h2, h3, fun A' a b B' e1 e2 => h4 (c :: A') a b B' (by rw [e1]; rfl) e2⟩
      cases A with
      | nil => exact h4 [] c b R rfl e
      | cons d A => cases e; exact h1 _ _ rfl

theorem fuse_norm : ∀ {S : St}, Norm S → fuse S = S
  | [], _ => rfl
  | [a], _ => rfl
  | a :: b :: S, h => by
    show add a (fuse (b :: S)) = _
    rw [fuse_norm h.2]
    exact if_neg h.1

theorem fuse_append (A B : St) : fuse (A ++ B) = A.foldr add (fuse B) := List.foldr_append

theorem head_used_foldr {A : St} {R : St} : ∀ b R', A.foldr add R = b :: R' → A ≠ [] → ∃ a A', A = a :: A' ∧ b.used = a.used := by
  intro b R' e hne
  cases A with
  | nil => exact absurd rfl hne
  | cons a A =>
    refine ⟨a, A, rfl, ?_⟩
    rw [List.foldr_cons] at e
    generalize A.foldr add R = T at e
    cases T with
    | nil => simp only [add, List.cons.injEq] at e; rw [← e.1]
    | cons c T =>
      simp only [add] at e
      by_cases hc : a.used = false ∧ c.used = false
      · rw [if_pos hc] at e; cases e; rw [hc.1]; rfl
      · rw [if_neg hc] at e; cases e; rfl

/-- Blocks that are apart, ahead of others: only the last of them may be joined. -/
theorem foldr_norm : ∀ (A : St) (l : Blk) (R : St), Norm (A ++ [l]) → (A ++ [l]).foldr add R = A ++ add l R
  | [], l, R, _ => rfl
  | a :: A, l, R, h => by
    rw [List.cons_append, List.foldr_cons, foldr_norm A l R h.tail]
    have hne : A ++ add l R ≠ [] := by
      cases A with
      | nil =>
        cases R with
        | nil => simp [add]
        | cons c R => simp only [add, List.nil_append]; split <;> simp
      | cons b A => simp
    have h1 := (norm_cons.1 h).1
    cases hT : A ++ add l R with
    | nil => exact absurd hT hne
    | cons b R' =>
      have hb : ¬ (a.used = false ∧ b.used = false) := by
        cases A with
        | nil =>
          have hl := h1 l [] rfl
          have hbl : b.used = l.used := by
            rw [List.nil_append] at hT
            cases R with
            | nil => simp only [add, List.cons.injEq] at hT; rw [← hT.1]
            | cons c R =>
              simp only [add] at hT
              by_cases hc : l.used = false ∧ c.used = false
              · rw [if_pos hc] at hT; cases hT; rw [hc.1]; rfl
              · rw [if_neg hc] at hT; cases hT; rfl
          rw [hbl]; exact hl
        | cons d A => cases hT; exact h1 _ _ rfl
      rw [List.cons_append, hT]
      exact if_neg hb

theorem fuse_free {A : St} {x : Blk} {B : St} (h : Norm (A ++ x :: B)) : fuse (A ++ hole x.size :: B) = backAdd A (add (hole x.size) B) := by
  obtain ⟨h1, h2, h3⟩ := norm_append.1 h
  rw [fuse_append]
  show List.foldr add (add (hole x.size) (fuse B)) A = _
  rw [fuse_norm h2.tail]
  rcases List.eq_nil_or_concat A with rfl | ⟨D, l, rfl⟩
  · rfl
  · rw [List.concat_eq_append, backAdd_snoc, foldr_norm _ _ _ (by rw [List.concat_eq_append] at h1; exact h1)]

/-! ### What is kept -/

theorem sz_fuse : ∀ S : St, sz (fuse S) = sz S
  | [] => rfl
  | a :: S => by
    show sz (add a (fuse S)) = _
    have ih := sz_fuse S
    cases hT : fuse S with
    | nil => rw [hT] at ih; simp [add, sz] at ih ⊢; omega
    | cons b T =>
      rw [hT] at ih
      simp only [add]
      split
      · simp [sz, hole] at ih ⊢; omega
      · simp [sz] at ih ⊢; omega

theorem norm_fuse : ∀ S : St, Norm (fuse S)
  | [] => trivial
  | a :: S => by
    show Norm (add a (fuse S))
    have ih := norm_fuse S
    cases hT : fuse S with
    | nil => simp [add, Norm]
    | cons b T =>
      rw [hT] at ih
      simp only [add]
      split
      · rename_i hc
        refine norm_cons.2 ⟨fun c R e hh => (norm_cons.1 ih).1 c R e ⟨hc.2, hh.2⟩, ih.tail⟩
      · rename_i hc
        exact ⟨hc, ih⟩

theorem good_hole {m : Nat} (h : 2 ≤ m) (he : m % 2 = 0) : Good (hole m) := ⟨h, he, (by intro h; cases h), fun _ => rfl, (by intro v hv; cases hv)⟩

theorem good_fuse : ∀ S : St, (∀ b ∈ S, Good b) → ∀ b ∈ fuse S, Good b
  | [], _, b, hb => by cases hb
  | a :: S, h, b, hb => by
    have ih := good_fuse S (fun b hb => h b (by simp [hb]))
    have ha := h a (by simp)
    have hb' : b ∈ add a (fuse S) := hb
    cases hT : fuse S with
    | nil => rw [hT] at hb'; simp [add] at hb'; rw [hb']; exact ha
    | cons c T =>
      rw [hT] at hb' ih
      simp only [add] at hb'
      split at hb'
      · rcases List.mem_cons.1 hb' with rfl | hb'
        · have hc := ih c (by simp)
          exact good_hole (by have := ha.two; omega) (by have := ha.even; have := hc.even; omega)
        · exact ih b (by simp [hb'])
      · rcases List.mem_cons.1 hb' with rfl | hb'
        · exact ha
        · exact ih b hb'

theorem good_zeros {m : Nat} (h : 2 ≤ m) (he : m % 2 = 0) : Good ⟨m, true, zeros (m - 1)⟩ :=
  ⟨h, he, fun _ => by simp [zeros]; omega, (by intro h; cases h), (by intro v hv; simp [zeros] at hv; rw [hv.2]; rfl)⟩

theorem need_good (k : Int) : 2 ≤ need k ∧ need k % 2 = 0 := by unfold need; omega

theorem rest_sum {n m : Nat} (_h : m ≤ n) : sz (rest n m) = n - m := by
  unfold rest; split
  · simp [sz]; omega
  · simp [sz, hole]
theorem rest_good {n m : Nat} (h : m ≤ n) (hn : n % 2 = 0) (hm : m % 2 = 0) : ∀ b ∈ rest n m, Good b := by
  intro b hb
  unfold rest at hb
  split at hb
  · cases hb
  · simp at hb; rw [hb]; exact good_hole (by omega) (by omega)

theorem put_ok {n : Nat} {A : St} {x : Blk} {B : St} (h : Ok n (A ++ x :: B)) : Ok n (fuse (A ++ hole x.size :: B)) := by
  have hx := h.good x (by simp)
  refine ⟨h.lo, h.hi, h.even, ?_, good_fuse _ ?_, norm_fuse _⟩
  · rw [sz_fuse, ← h.sum, sz_append, sz_append]; rfl
  · intro b hb
    rcases List.mem_append.1 hb with hb | hb
    · exact h.good b (by simp [hb])
    · rcases List.mem_cons.1 hb with rfl | hb
      · exact good_hole hx.two hx.even
      · exact h.good b (by simp [hb])

theorem take_ok {n m : Nat} {A : St} {x : Blk} {B : St} (h : Ok n (A ++ x :: B)) (hu : x.used = false) (hm : m ≤ x.size) (_h2 : 2 ≤ m) (he : m % 2 = 0) (ws : List Int) (hg : Good ⟨m, true, ws⟩) :
    Ok n (A ++ ⟨m, true, ws⟩ :: (rest x.size m ++ B)) := by
  have hx := h.good x (by simp)
  obtain ⟨n1, n2, n3⟩ := norm_append.1 h.norm
  obtain ⟨m1, m2⟩ := norm_cons.1 n2
  refine ⟨h.lo, h.hi, h.even, ?_, ?_, norm_append.2 ⟨n1, norm_cons.2 ⟨fun b R e hh => (by cases hh.1), ?_⟩, fun A' a b B' e1 e2 hh => ?_⟩⟩
  · have := h.sum
    rw [sz_append] at this ⊢
    simp only [sz] at this ⊢
    rw [sz_append, rest_sum hm]
    omega
  · intro b hb
    rcases List.mem_append.1 hb with hb | hb
    · exact h.good b (by simp [hb])
    · rcases List.mem_cons.1 hb with rfl | hb
      · exact hg
      · rcases List.mem_append.1 hb with hb | hb
        · exact rest_good hm hx.even he b hb
        · exact h.good b (by simp [hb])
  · unfold rest
    split
    · simpa using m2
    · exact norm_cons.2 ⟨fun b R e hh => m1 b R e ⟨hu, hh.2⟩, m2⟩
  · cases e2; cases hh.2
end Go.Sto
