/-
  The plain law of the store's list: what each call keeps.
-/
import Derived.Test.YtahfoejffibahaaQStoFree
import Derived.Test.YtahfoejffibahaaQStoGet
set_option linter.unusedVariables false

namespace Go.Sto

theorem take_left (A : St) (x : Blk) (B : St) : (A ++ x :: B).take A.length = A := by simp
theorem drop_left (A : St) (x : Blk) (B : St) : (A ++ x :: B).drop A.length = x :: B := by simp

/-! ### Norm -/

theorem Norm.tail {a : Blk} {S : St} (h : Norm (a :: S)) : Norm S := by
  cases S with
  | nil => trivial
  | cons b S => exact h.2

theorem norm_cons {a : Blk} {S : St} : Norm (a :: S) ↔ (∀ b R, S = b :: R → ¬ (a.used = false ∧ b.used = false)) ∧ Norm S := by
  cases S with
  | nil => simp [Norm]
  | cons b R =>
    simp only [Norm]
    constructor
    · rintro ⟨h1, h2⟩; exact ⟨fun b' R' e => by cases e; exact h1, h2⟩
    · rintro ⟨h1, h2⟩; exact ⟨h1 b R rfl, h2⟩

theorem norm_append {A B : St} : Norm (A ++ B) ↔ Norm A ∧ Norm B ∧ ∀ A' a b B', A = A' ++ [a] → B = b :: B' → ¬ (a.used = false ∧ b.used = false) := by
  induction A with
  | nil => simp [Norm]
  | cons c A ih =>
    rw [List.cons_append, norm_cons, norm_cons, ih]
    constructor
    · rintro ⟨h1, h2, h3, h4⟩
      refine ⟨⟨fun b R e => h1 b (R ++ B) (by rw [e]; rfl), h2⟩, h3, fun A' a b B' e1 e2 => ?_⟩
      cases A' with
      | nil => cases e1; exact h1 b B' (by rw [e2]; rfl)
      | cons d A' => cases e1; exact h4 A' a b B' rfl e2
    · rintro ⟨⟨h1, h2⟩, h3, h4⟩
      refine ⟨fun b R e => ?_, h2, h3, fun A' a b B' e1 e2 => h4 (c :: A') a b B' (by rw [e1]; rfl) e2⟩
      cases A with
      | nil => exact h4 [] c b R rfl e
      | cons d A => cases e; exact h1 _ _ rfl

theorem fuse_norm : ∀ {S : St}, Norm S → fuse S = S
  | [], _ => rfl
  | [a], _ => rfl
  | a :: b :: S, h => by
    show add a (fuse (b :: S)) = _
    rw [fuse_norm h.2]
    exact if_neg h.1

theorem fuse_append (A B : St) : fuse (A ++ B) = A.foldr add (fuse B) := List.foldr_append

theorem head_used_foldr {A : St} {R : St} : ∀ b R', A.foldr add R = b :: R' → A ≠ [] → ∃ a A', A = a :: A' ∧ b.used = a.used := by
  intro b R' e hne
  cases A with
  | nil => exact absurd rfl hne
  | cons a A =>
    refine ⟨a, A, rfl, ?_⟩
    rw [List.foldr_cons] at e
    generalize A.foldr add R = T at e
    cases T with
    | nil => simp only [add, List.cons.injEq] at e; rw [← e.1]
    | cons c T =>
      simp only [add] at e
      by_cases hc : a.used = false ∧ c.used = false
      · rw [if_pos hc] at e; cases e; rw [hc.1]; rfl
      · rw [if_neg hc] at e; cases e; rfl

/-- Blocks that are apart, ahead of others: only the last of them may be joined. -/
theorem foldr_norm : ∀ (A : St) (l : Blk) (R : St), Norm (A ++ [l]) → (A ++ [l]).foldr add R = A ++ add l R
  | [], l, R, _ => rfl
  | a :: A, l, R, h => by
    rw [List.cons_append, List.foldr_cons, foldr_norm A l R h.tail]
    have hne : A ++ add l R ≠ [] := by
      cases A with
      | nil =>
        cases R with
        | nil => simp [add]
        | cons c R => simp only [add, List.nil_append]; split <;> simp
      | cons b A => simp
    have h1 := (norm_cons.1 h).1
    cases hT : A ++ add l R with
    | nil => exact absurd hT hne
    | cons b R' =>
      have hb : ¬ (a.used = false ∧ b.used = false) := by
        cases A with
        | nil =>
          have hl := h1 l [] rfl
          have hbl : b.used = l.used := by
            rw [List.nil_append] at hT
            cases R with
            | nil => simp only [add, List.cons.injEq] at hT; rw [← hT.1]
            | cons c R =>
              simp only [add] at hT
              by_cases hc : l.used = false ∧ c.used = false
              · rw [if_pos hc] at hT; cases hT; rw [hc.1]; rfl
              · rw [if_neg hc] at hT; cases hT; rfl
          rw [hbl]; exact hl
        | cons d A => cases hT; exact h1 _ _ rfl
      rw [List.cons_append, hT]
      exact if_neg hb

theorem fuse_free {A : St} {x : Blk} {B : St} (h : Norm (A ++ x :: B)) : fuse (A ++ hole x.size :: B) = backAdd A (add (hole x.size) B) := by
  obtain ⟨h1, h2, h3⟩ := norm_append.1 h
  rw [fuse_append]
  show List.foldr add (add (hole x.size) (fuse B)) A = _
  rw [fuse_norm h2.tail]
  rcases List.eq_nil_or_concat A with rfl | ⟨D, l, rfl⟩
  · rfl
  · rw [List.concat_eq_append, backAdd_snoc, foldr_norm _ _ _ (by rw [List.concat_eq_append] at h1; exact h1)]

/-! ### What is kept -/

theorem sz_fuse : ∀ S : St, sz (fuse S) = sz S
  | [] => rfl
  | a :: S => by
    show sz (add a (fuse S)) = _
    have ih := sz_fuse S
    cases hT : fuse S with
    | nil => rw [hT] at ih; simp [add, sz] at ih ⊢; omega
    | cons b T =>
      rw [hT] at ih
      simp only [add]
      split
      · simp [sz, hole] at ih ⊢; omega
      · simp [sz] at ih ⊢; omega

theorem norm_fuse : ∀ S : St, Norm (fuse S)
  | [] => trivial
  | a :: S => by
    show Norm (add a (fuse S))
    have ih := norm_fuse S
    cases hT : fuse S with
    | nil => simp [add, Norm]
    | cons b T =>
      rw [hT] at ih
      simp only [add]
      split
      · rename_i hc
        refine norm_cons.2 ⟨fun c R e hh => (norm_cons.1 ih).1 c R e ⟨hc.2, hh.2⟩, ih.tail⟩
      · rename_i hc
        exact ⟨hc, ih⟩

theorem good_hole {m : Nat} (h : 2 ≤ m) (he : m % 2 = 0) : Good (hole m) := ⟨h, he, (by intro h; cases h), fun _ => rfl, (by intro v hv; cases hv)⟩

theorem good_fuse : ∀ S : St, (∀ b ∈ S, Good b) → ∀ b ∈ fuse S, Good b
  | [], _, b, hb => by cases hb
  | a :: S, h, b, hb => by
    have ih := good_fuse S (fun b hb => h b (by simp [hb]))
    have ha := h a (by simp)
    have hb' : b ∈ add a (fuse S) := hb
    cases hT : fuse S with
    | nil => rw [hT] at hb'; simp [add] at hb'; rw [hb']; exact ha
    | cons c T =>
      rw [hT] at hb' ih
      simp only [add] at hb'
      split at hb'
      · rcases List.mem_cons.1 hb' with rfl | hb'
        · have hc := ih c (by simp)
          exact good_hole (by have := ha.two; omega) (by have := ha.even; have := hc.even; omega)
        · exact ih b (by simp [hb'])
      · rcases List.mem_cons.1 hb' with rfl | hb'
        · exact ha
        · exact ih b hb'

theorem good_zeros {m : Nat} (h : 2 ≤ m) (he : m % 2 = 0) : Good ⟨m, true, zeros (m - 1)⟩ :=
  ⟨h, he, fun _ => by simp [zeros]; omega, (by intro h; cases h), (by intro v hv; simp [zeros] at hv; rw [hv.2]; rfl)⟩

theorem need_good (k : Int) : 2 ≤ need k ∧ need k % 2 = 0 := by unfold need; omega

theorem rest_sum {n m : Nat} (_h : m ≤ n) : sz (rest n m) = n - m := by
  unfold rest; split
  · simp [sz]; omega
  · simp [sz, hole]
theorem rest_good {n m : Nat} (h : m ≤ n) (hn : n % 2 = 0) (hm : m % 2 = 0) : ∀ b ∈ rest n m, Good b := by
  intro b hb
  unfold rest at hb
  split at hb
  · cases hb
  · simp at hb; rw [hb]; exact good_hole (by omega) (by omega)

theorem put_ok {n : Nat} {A : St} {x : Blk} {B : St} (h : Ok n (A ++ x :: B)) : Ok n (fuse (A ++ hole x.size :: B)) := by
  have hx := h.good x (by simp)
  refine ⟨h.lo, h.hi, h.even, ?_, good_fuse _ ?_, norm_fuse _⟩
  · rw [sz_fuse, ← h.sum, sz_append, sz_append]; rfl
  · intro b hb
    rcases List.mem_append.1 hb with hb | hb
    · exact h.good b (by simp [hb])
    · rcases List.mem_cons.1 hb with rfl | hb
      · exact good_hole hx.two hx.even
      · exact h.good b (by simp [hb])

theorem take_ok {n m : Nat} {A : St} {x : Blk} {B : St} (h : Ok n (A ++ x :: B)) (hu : x.used = false) (hm : m ≤ x.size) (_h2 : 2 ≤ m) (he : m % 2 = 0) (ws : List Int) (hg : Good ⟨m, true, ws⟩) :
    Ok n (A ++ ⟨m, true, ws⟩ :: (rest x.size m ++ B)) := by
  have hx := h.good x (by simp)
  obtain ⟨n1, n2, n3⟩ := norm_append.1 h.norm
  obtain ⟨m1, m2⟩ := norm_cons.1 n2
  refine ⟨h.lo, h.hi, h.even, ?_, ?_, norm_append.2 ⟨n1, norm_cons.2 ⟨fun b R e hh => (by cases hh.1), ?_⟩, fun A' a b B' e1 e2 hh => ?_⟩⟩
  · have := h.sum
    rw [sz_append] at this ⊢
    simp only [sz] at this ⊢
    rw [sz_append, rest_sum hm]
    omega
  · intro b hb
    rcases List.mem_append.1 hb with hb | hb
    · exact h.good b (by simp [hb])
    · rcases List.mem_cons.1 hb with rfl | hb
      · exact hg
      · rcases List.mem_append.1 hb with hb | hb
        · exact rest_good hm hx.even he b hb
        · exact h.good b (by simp [hb])
  · unfold rest
    split
    · simpa using m2
    · exact norm_cons.2 ⟨fun b R e hh => m1 b R e ⟨hu, hh.2⟩, m2⟩
  · cases e2; cases hh.2
end Go.Sto

/-
  Get and Put, as the plain model has them.
-/
namespace Go.Sto
open Go.Own Go.RowKit Go.Proofs

section
variable {g : Ghost} {S : St} {w w' : World}

/-- The store's memory and what always holds of it. -/
structure Repo (g : Ghost) (S : St) (w : World) : Prop where
  rep : Rep g S w
  ok : Ok g.n S

theorem Ok.le {n : Nat} {S : St} (h : Ok n S) : sz S ≤ 32000 := by rw [h.sum]; exact h.hi
theorem Ok.bare {n : Nat} {S : St} (h : Ok n S) : ∀ b ∈ S, b.used = false → b.ws = [] := fun b hb => (h.good b hb).bare

theorem bs_split {L : List Nd} {A' : St} {y : Blk} {B' : St} (h : bs L = A' ++ y :: B') : ∃ A x B, L = A ++ x :: B ∧ bs A = A' ∧ x.b = y ∧ bs B = B' := by
  obtain ⟨A, R, rfl, hA, hR⟩ := List.map_eq_append_iff.1 h
  obtain ⟨x, B, rfl, hx, hB⟩ := List.map_eq_cons_iff.1 hR
  exact ⟨A, x, B, rfl, hA, hx, hB⟩

theorem hit_none_of {p : Nat → Blk → Bool} {L : List Nd} (h : ∀ A x B, L = A ++ x :: B → p (sz (bs A)) x.b = false) : hit p 0 (bs L) = none :=
  hit_none fun A y B e => by
    obtain ⟨A1, x, B1, rfl, rfl, rfl, rfl⟩ := bs_split e
    rw [Nat.zero_add]; exact h A1 x B1 rfl

theorem hit_some_of {p : Nat → Blk → Bool} {A B : List Nd} {x : Nd} (hx : p (sz (bs A)) x.b = true) (h : ∀ A' y B', A = A' ++ y :: B' → p (sz (bs A')) y.b = false) : hit p 0 (bs (A ++ x :: B)) = some (bs A).length := by
  rw [bs_append, bs_cons]
  exact hit_at (by rwa [Nat.zero_add]) fun A' y B' e => by
    obtain ⟨A1, z, B1, rfl, rfl, rfl, rfl⟩ := bs_split e
    rw [Nat.zero_add]; exact h A1 z B1 rfl

theorem Step.bel (hB : Below w.heap.size w w') : Step g g w w' := Step.below hB (Nat.le_refl _)

theorem get_range (k : Int) (hk : k < 0 ∨ 32000 < k) (w : World) (s : Nat) :
    Calls Try.prog 18 #[.pointer (some ⟨s, 0, none⟩), .int .i64 k] w fun e w' => e = .returned (.tuple #[.int .i64 0, .int .i64 1]) ∧ Below w.heap.size w w' := by
  rcases Int.lt_or_le k 0 with hk' | hk'
  · have q1 : decide (k < 0) = true := by simp; omega
    go_enter Try.func18, Try.ntmps18
    go_wp2
    refine ⟨by simp, .tuple #[.int .i64 0, .int .i64 1], by simp [results, Try.f18, go_sem], rfl, ((Below.refl _ w).alloc (Nat.le_refl _) _).alloc (by simp) _⟩
  · have q1 : decide (k < 0) = false := by simp; omega
    have q2 : decide (32000 < k) = true := by simp; omega
    go_enter Try.func18, Try.ntmps18
    go_wp2
    refine ⟨by simp, .tuple #[.int .i64 0, .int .i64 1], by simp [results, Try.f18, go_sem], rfl, ((Below.refl _ w).alloc (Nat.le_refl _) _).alloc (by simp) _⟩

theorem put_calls (h : Repo g S w) {s : Nat} (hs : g.s = s) (a : Int) :
    Calls Try.prog 19 #[.pointer (some ⟨s, 0, none⟩), .int .i64 a] w fun e w' => e = .returned (.int .i64 (put S a).2) ∧ ∃ g', Repo g' (put S a).1 w' ∧ Step g g' w w' := by
  subst hs
  obtain ⟨hr, hok⟩ := h
  have hsz := hok.le
  have hbare := hok.bare
  have HS := Lib.hid hr.map
  go_enter Try.func19, Try.ntmps19
  go_wp2_with (first
    | (go_at_call 48; refine (used_calls hr hsz rfl a).mono ?_
       rintro e w1 ⟨hB, (⟨rfl, hno⟩ | ⟨A, x, B, hAB, rfl, hat, hne⟩)⟩)
    | (go_at_call 49; refine (free_calls (hr.below hB (Nat.le_refl _)) hAB hsz hbare rfl).mono ?_
       rintro e w2 ⟨rfl, g2, e2, r2, s2⟩))
  · go_ret
    have e : put S a = (S, 180) := by unfold put find; rw [HS.out, hit_none_of hno]
    rw [e]
    exact ⟨rfl, g, ⟨hr.below hB (Nat.le_refl _), hok⟩, Step.bel hB⟩
  · go_ret
    have eS : S = bs A ++ x.b :: bs B := by rw [HS.out, hAB, bs_append, bs_cons]
    have e : put S a = (fuse (bs A ++ hole x.b.size :: bs B), 0) := by
      unfold put find
      rw [HS.out, hAB, hit_some_of hat hne]
      simp only [freeAt, bs_append, bs_cons, take_left, drop_left]
    rw [e]
    have hok' : Ok g.n (bs A ++ x.b :: bs B) := eS ▸ hok
    refine ⟨rfl, g2, ⟨?_, ?_⟩, (Step.bel hB).trans s2⟩
    · rw [fuse_free hok'.norm, ← e2]; exact r2
    · rw [s2.n]; exact put_ok hok'

theorem get_model {k : Int} (h0 : 0 ≤ k) (h1 : k ≤ 32000) : get S k = match hit (fits (need k)) 0 S with
    | none => (S, 0, 2)
    | some i => (cutAt S i (need k) (zeros (need k - 1)), (sz (S.take i) : Int) + 1, 0) := by
  unfold get; rw [if_neg (by omega)]; rfl

theorem get_full (h : Repo g S w) {s : Nat} (hs : g.s = s) (k : Int) :
    Calls Try.prog 18 #[.pointer (some ⟨s, 0, none⟩), .int .i64 k] w fun e w' => e = .returned (.tuple #[.int .i64 (get S k).2.1, .int .i64 (get S k).2.2]) ∧ ∃ g', Repo g' (get S k).1 w' ∧ Step g g' w w' := by
  by_cases hk : k < 0 ∨ 32000 < k
  · refine (get_range k hk w s).mono ?_
    rintro e w' ⟨rfl, hB⟩
    have : get S k = (S, 0, 1) := by unfold get; rw [if_pos hk]
    rw [this]
    exact ⟨rfl, g, ⟨h.rep.below hB (Nat.le_refl _), h.ok⟩, Step.bel hB⟩
  · have h0 : 0 ≤ k := by omega
    have h1 : k ≤ 32000 := by omega
    refine (get_calls h.rep h.ok.le hs k h0 h1 rfl).mono ?_
    have hmap := h.rep.map
    rintro e w' (⟨hno, rfl, hB⟩ | ⟨A, x, B, hAB, hf, hne, rfl, g', R, v, hR, e2, r2, s2⟩)
    · have : get S k = (S, 0, 2) := by rw [get_model h0 h1, hmap, hit_none_of hno]
      rw [this]
      exact ⟨rfl, g, ⟨h.rep.below hB (Nat.le_refl _), h.ok⟩, Step.bel hB⟩
    · have eS : S = bs A ++ x.b :: bs B := by rw [hmap, hAB, bs_append, bs_cons]
      have : get S k = (bs A ++ ⟨need k, true, zeros (need k - 1)⟩ :: (rest x.b.size (need k) ++ bs B), (sz (bs A) : Int) + 1, 0) := by
        rw [get_model h0 h1, hmap, hAB, hit_some_of hf hne]
        simp only [cutAt, bs_append, bs_cons, take_left, drop_left]
      rw [this]
      have hok' : Ok g.n (bs A ++ x.b :: bs B) := eS ▸ h.ok
      simp only [fits, Bool.and_eq_true, Bool.not_eq_true', decide_eq_true_eq] at hf
      have hbs : bs g'.L = bs A ++ ⟨need k, true, zeros (need k - 1)⟩ :: (rest x.b.size (need k) ++ bs B) := by rw [e2]; simp [hR]
      refine ⟨rfl, g', ⟨by rw [← hbs]; exact r2, ?_⟩, s2⟩
      rw [s2.n]
      exact take_ok hok' hf.1 hf.2 (need_good k).1 (need_good k).2 _ (good_zeros (need_good k).1 (need_good k).2)
end
end Go.Sto
