/-
  The plain law of the store's list: what each call keeps.
-/
import Derived.Test.YtahfoejffibahaaQStoFree
import Derived.Test.YtahfoejffibahaaQStoGet
set_option linter.unusedVariables false

namespace Go.Sto

theorem take_left (A : St) (x : Blk) (B : St) : (A ++ x :: B).take A.length = A := by simp
theorem drop_left (A : St) (x : Blk) (B : St) : (A ++ x :: B).drop A.length = x :: B := by simp

/-! ### Norm -/

theorem Norm.tail {a : Blk} {S : St} (h : Norm (a :: S)) : Norm S := by
  cases S with
  | nil => trivial
  | cons b S => exact h.2

theorem norm_cons {a : Blk} {S : St} : Norm (a :: S) ↔ (∀ b R, S = b :: R → ¬ (a.used = false ∧ b.used = false)) ∧ Norm S := by
  cases S with
  | nil => simp [Norm]
  | cons b R =>
    simp only [Norm]
    constructor
    · rintro ⟨h1, h2⟩; exact ⟨fun b' R' e => by cases e; exact h1, h2⟩
    · rintro ⟨h1, h2⟩; exact ⟨h1 b R rfl, h2⟩

theorem norm_append {A B : St} : Norm (A ++ B) ↔ Norm A ∧ Norm B ∧ ∀ A' a b B', A = A' ++ [a] → B = b :: B' → ¬ (a.used = false ∧ b.used = false) := by
  induction A with
  | nil => simp [Norm]
  | cons c A ih =>
    rw [List.cons_append, norm_cons, norm_cons, ih]
    constructor
    · rintro ⟨h1, h2, h3, h4⟩
      refine ⟨⟨fun b R e => h1 b (R ++ B) (by rw [e]; rfl), h2⟩, h3, fun A' a b B' e1 e2 => ?_⟩
      cases A' with
      | nil => cases e1; exact h1 b B' (by rw [e2]; rfl)
      | cons d A' => cases e1; exact h4 A' a b B' rfl e2
    · rintro ⟨⟨h1, h2⟩, h3, h4⟩
      refine ⟨fun b R e => ?_, h2, h3, fun A' a b B' e1 e2 => h4 (c :: A') a b B' (by rw [e1]; rfl) e2⟩
      cases A with
      | nil => exact h4 [] c b R rfl e
      | cons d A => cases e; exact h1 _ _ rfl

theorem fuse_norm : ∀ {S : St}, Norm S → fuse S = S
  | [], _ => rfl
  | [a], _ => rfl
  | a :: b :: S, h => by
    show add a (fuse (b :: S)) = _
    rw [fuse_norm h.2]
    exact if_neg h.1

theorem fuse_append (A B : St) : fuse (A ++ B) = A.foldr add (fuse B) := List.foldr_append

theorem head_used_foldr {A : St} {R : St} : ∀ b R', A.foldr add R = b :: R' → A ≠ [] → ∃ a A', A = a :: A' ∧ b.used = a.used := by
  intro b R' e hne
  cases A with
  | nil => exact absurd rfl hne
  | cons a A =>
    refine ⟨a, A, rfl, ?_⟩
    rw [List.foldr_cons] at e
    generalize A.foldr add R = T at e
    cases T with
    | nil => simp only [add, List.cons.injEq] at e; rw [← e.1]
    | cons c T =>
      simp only [add] at e
      by_cases hc : a.used = false ∧ c.used = false
      · rw [if_pos hc] at e; cases e; rw [hc.1]; rfl
      · rw [if_neg hc] at e; cases e; rfl

/-- Blocks that are apart, ahead of others: only the last of them may be joined. -/
theorem foldr_norm : ∀ (A : St) (l : Blk) (R : St), Norm (A ++ [l]) → (A ++ [l]).foldr add R = A ++ add l R
  | [], l, R, _ => rfl
  | a :: A, l, R, h => by
    rw [List.cons_append, List.foldr_cons, foldr_norm A l R h.tail]
    have hne : A ++ add l R ≠ [] := by
      cases A with
      | nil =>
        cases R with
        | nil => simp [add]
        | cons c R => simp only [add, List.nil_append]; split <;> simp
      | cons b A => simp
    have h1 := (norm_cons.1 h).1
    cases hT : A ++ add l R with
    | nil => exact absurd hT hne
    | cons b R' =>
      have hb : ¬ (a.used = false ∧ b.used = false) := by
        cases A with
        | nil =>
          have hl := h1 l [] rfl
          have hbl : b.used = l.used := by
            rw [List.nil_append] at hT
            cases R with
            | nil => simp only [add, List.cons.injEq] at hT; rw [← hT.1]
            | cons c R =>
              simp only [add] at hT
              by_cases hc : l.used = false ∧ c.used = false
              · rw [if_pos hc] at hT; cases hT; rw [hc.1]; rfl
              · rw [if_neg hc] at hT; cases hT; rfl
          rw [hbl]; exact hl
        | cons d A => cases hT; exact h1 _ _ rfl
      rw [List.cons_append, hT]
      exact if_neg hb

theorem fuse_free {A : St} {x : Blk} {B : St} (h : Norm (A ++ x :: B)) : fuse (A ++ hole x.size :: B) = backAdd A (add (hole x.size) B) := by
  obtain ⟨h1, h2, h3⟩ := norm_append.1 h
  rw [fuse_append]
  show List.foldr add (add (hole x.size) (fuse B)) A = _
  rw [fuse_norm h2.tail]
  rcases List.eq_nil_or_concat A with rfl | ⟨D, l, rfl⟩
  · rfl
  · rw [List.concat_eq_append, backAdd_snoc, foldr_norm _ _ _ (by rw [List.concat_eq_append] at h1; exact h1)]

/-! ### What is kept -/

theorem sz_fuse : ∀ S : St, sz (fuse S) = sz S
  | [] => rfl
  | a :: S => by
    show sz (add a (fuse S)) = _
    have ih := sz_fuse S
    cases hT : fuse S with
    | nil => rw [hT] at ih; simp [add, sz] at ih ⊢; omega
    | cons b T =>
      rw [hT] at ih
      simp only [add]
      split
      · simp [sz, hole] at ih ⊢; omega
      · simp [sz] at ih ⊢; omega

theorem norm_fuse : ∀ S : St, Norm (fuse S)
  | [] => trivial
  | a :: S => by
    show Norm (add a (fuse S))
    have ih := norm_fuse S
    cases hT : fuse S with
    | nil => simp [add, Norm]
    | cons b T =>
      rw [hT] at ih
      simp only [add]
      split
      · rename_i hc
        refine norm_cons.2 ⟨fun c R e hh => (norm_cons.1 ih).1 c R e ⟨hc.2, hh.2⟩, ih.tail⟩
      · rename_i hc
        exact ⟨hc, ih⟩

theorem good_hole {m : Nat} (h : 2 ≤ m) (he : m % 2 = 0) : Good (hole m) := ⟨h, he, (by intro h; cases h), fun _ => rfl, (by intro v hv; cases hv)⟩

theorem good_fuse : ∀ S : St, (∀ b ∈ S, Good b) → ∀ b ∈ fuse S, Good b
  | [], _, b, hb => by cases hb
  | a :: S, h, b, hb => by
    have ih := good_fuse S (fun b hb => h b (by simp [hb]))
    have ha := h a (by simp)
    have hb' : b ∈ add a (fuse S) := hb
    cases hT : fuse S with
    | nil => rw [hT] at hb'; simp [add] at hb'; rw [hb']; exact ha
    | cons c T =>
      rw [hT] at hb' ih
      simp only [add] at hb'
      split at hb'
      · rcases List.mem_cons.1 hb' with rfl | hb'
        · have hc := ih c (by simp)
          exact good_hole (by have := ha.two; omega) (by have := ha.even; have := hc.even; omega)
        · exact ih b (by simp [hb'])
      · rcases List.mem_cons.1 hb' with rfl | hb'
        · exact ha
        · exact ih b hb'

theorem good_zeros {m : Nat} (h : 2 ≤ m) (he : m % 2 = 0) : Good ⟨m, true, zeros (m - 1)⟩ :=
  ⟨h, he, fun _ => by simp [zeros]; omega, (by intro h; cases h), (by intro v hv; simp [zeros] at hv; rw [hv.2]; rfl)⟩

theorem need_good (k : Int) : 2 ≤ need k ∧ need k % 2 = 0 := by unfold need; omega

theorem rest_sum {n m : Nat} (_h : m ≤ n) : sz (rest n m) = n - m := by
  unfold rest; split
  · simp [sz]; omega
  · simp [sz, hole]
theorem rest_good {n m : Nat} (h : m ≤ n) (hn : n % 2 = 0) (hm : m % 2 = 0) : ∀ b ∈ rest n m, Good b := by
  intro b hb
  unfold rest at hb
  split at hb
  · cases hb
  · simp at hb; rw [hb]; exact good_hole (by omega) (by omega)

theorem put_ok {n : Nat} {A : St} {x : Blk} {B : St} (h : Ok n (A ++ x :: B)) : Ok n (fuse (A ++ hole x.size :: B)) := by
  have hx := h.good x (by simp)
  refine ⟨h.lo, h.hi, h.even, ?_, good_fuse _ ?_, norm_fuse _⟩
  · rw [sz_fuse, ← h.sum, sz_append, sz_append]; rfl
  · intro b hb
    rcases List.mem_append.1 hb with hb | hb
    · exact h.good b (by simp [hb])
    · rcases List.mem_cons.1 hb with rfl | hb
      · exact good_hole hx.two hx.even
      · exact h.good b (by simp [hb])

theorem take_ok {n m : Nat} {A : St} {x : Blk} {B : St} (h : Ok n (A ++ x :: B)) (hu : x.used = false) (hm : m ≤ x.size) (_h2 : 2 ≤ m) (he : m % 2 = 0) (ws : List Int) (hg : Good ⟨m, true, ws⟩) :
    Ok n (A ++ ⟨m, true, ws⟩ :: (rest x.size m ++ B)) := by
  have hx := h.good x (by simp)
  obtain ⟨n1, n2, n3⟩ := norm_append.1 h.norm
  obtain ⟨m1, m2⟩ := norm_cons.1 n2
  refine ⟨h.lo, h.hi, h.even, ?_, ?_, norm_append.2 ⟨n1, norm_cons.2 ⟨fun b R e hh => (by cases hh.1), ?_⟩, fun A' a b B' e1 e2 hh => ?_⟩⟩
  · have := h.sum
    rw [sz_append] at this ⊢
    simp only [sz] at this ⊢
    rw [sz_append, rest_sum hm]
    omega
  · intro b hb
    rcases List.mem_append.1 hb with hb | hb
    · exact h.good b (by simp [hb])
    · rcases List.mem_cons.1 hb with rfl | hb
      · exact hg
      · rcases List.mem_append.1 hb with hb | hb
        · exact rest_good hm hx.even he b hb
        · exact h.good b (by simp [hb])
  · unfold rest
    split
    · simpa using m2
    · exact norm_cons.2 ⟨fun b R e hh => m1 b R e ⟨hu, hh.2⟩, m2⟩
  · cases e2; cases hh.2
end Go.Sto

/-
  Get and Put, as the plain model has them.
-/
namespace Go.Sto
open Go.Own Go.RowKit Go.Proofs

section
variable {g : Ghost} {S : St} {w w' : World}

/-- The store's memory and what always holds of it. -/
structure Repo (g : Ghost) (S : St) (w : World) : Prop where
  rep : Rep g S w
  ok : Ok g.n S

theorem Ok.le {n : Nat} {S : St} (h : Ok n S) : sz S ≤ 32000 := by rw [h.sum]; exact h.hi
theorem Ok.bare {n : Nat} {S : St} (h : Ok n S) : ∀ b ∈ S, b.used = false → b.ws = [] := fun b hb => (h.good b hb).bare

theorem bs_split {L : List Nd} {A' : St} {y : Blk} {B' : St} (h : bs L = A' ++ y :: B') : ∃ A x B, L = A ++ x :: B ∧ bs A = A' ∧ x.b = y ∧ bs B = B' := by
  obtain ⟨A, R, rfl, hA, hR⟩ := List.map_eq_append_iff.1 h
  obtain ⟨x, B, rfl, hx, hB⟩ := List.map_eq_cons_iff.1 hR
  exact ⟨A, x, B, rfl, hA, hx, hB⟩

theorem hit_none_of {p : Nat → Blk → Bool} {L : List Nd} (h : ∀ A x B, L = A ++ x :: B → p (sz (bs A)) x.b = false) : hit p 0 (bs L) = none :=
  hit_none fun A y B e => by
    obtain ⟨A1, x, B1, rfl, rfl, rfl, rfl⟩ := bs_split e
    rw [Nat.zero_add]; exact h A1 x B1 rfl

theorem hit_some_of {p : Nat → Blk → Bool} {A B : List Nd} {x : Nd} (hx : p (sz (bs A)) x.b = true) (h : ∀ A' y B', A = A' ++ y :: B' → p (sz (bs A')) y.b = false) : hit p 0 (bs (A ++ x :: B)) = some (bs A).length := by
  rw [bs_append, bs_cons]
  exact hit_at (by rwa [Nat.zero_add]) fun A' y B' e => by
    obtain ⟨A1, z, B1, rfl, rfl, rfl, rfl⟩ := bs_split e
    rw [Nat.zero_add]; exact h A1 z B1 rfl

theorem Step.bel (hB : Below w.heap.size w w') : Step g g w w' := Step.below hB (Nat.le_refl _)

theorem get_range (k : Int) (hk : k < 0 ∨ 32000 < k) (w : World) (s : Nat) :
    Calls Try.prog 18 #[.pointer (some ⟨s, 0, none⟩), .int .i64 k] w fun e w' => e = .returned (.tuple #[.int .i64 0, .int .i64 1]) ∧ Below w.heap.size w w' := by
  rcases Int.lt_or_le k 0 with hk' | hk'
  · have q1 : decide (k < 0) = true := by simp; omega
    go_enter Try.func18, Try.ntmps18
    go_wp2
    refine ⟨by simp, .tuple #[.int .i64 0, .int .i64 1], by simp [results, Try.f18, go_sem], rfl, ((Below.refl _ w).alloc (Nat.le_refl _) _).alloc (by simp) _⟩
  · have q1 : decide (k < 0) = false := by simp; omega
    have q2 : decide (32000 < k) = true := by simp; omega
    go_enter Try.func18, Try.ntmps18
    go_wp2
    refine ⟨by simp, .tuple #[.int .i64 0, .int .i64 1], by simp [results, Try.f18, go_sem], rfl, ((Below.refl _ w).alloc (Nat.le_refl _) _).alloc (by simp) _⟩

theorem put_calls (h : Repo g S w) {s : Nat} (hs : g.s = s) (a : Int) :
    Calls Try.prog 19 #[.pointer (some ⟨s, 0, none⟩), .int .i64 a] w fun e w' => e = .returned (.int .i64 (put S a).2) ∧ ∃ g', Repo g' (put S a).1 w' ∧ Step g g' w w' := by
  subst hs
  obtain ⟨hr, hok⟩ := h
  have hsz := hok.le
  have hbare := hok.bare
  have HS := Lib.hid hr.map
  go_enter Try.func19, Try.ntmps19
  go_wp2_with (first
    | (go_at_call 48; refine (used_calls hr hsz rfl a).mono ?_
       rintro e w1 ⟨hB, (⟨rfl, hno⟩ | ⟨A, x, B, hAB, rfl, hat, hne⟩)⟩)
    | (go_at_call 49; refine (free_calls (hr.below hB (Nat.le_refl _)) hAB hsz hbare rfl).mono ?_
       rintro e w2 ⟨rfl, g2, e2, r2, s2⟩))
  · go_ret
    have e : put S a = (S, 180) := by unfold put find; rw [HS.out, hit_none_of hno]
    rw [e]
    exact ⟨rfl, g, ⟨hr.below hB (Nat.le_refl _), hok⟩, Step.bel hB⟩
  · go_ret
    have eS : S = bs A ++ x.b :: bs B := by rw [HS.out, hAB, bs_append, bs_cons]
    have e : put S a = (fuse (bs A ++ hole x.b.size :: bs B), 0) := by
      unfold put find
      rw [HS.out, hAB, hit_some_of hat hne]
      simp only [freeAt, bs_append, bs_cons, take_left, drop_left]
    rw [e]
    have hok' : Ok g.n (bs A ++ x.b :: bs B) := eS ▸ hok
    refine ⟨rfl, g2, ⟨?_, ?_⟩, (Step.bel hB).trans s2⟩
    · rw [fuse_free hok'.norm, ← e2]; exact r2
    · rw [s2.n]; exact put_ok hok'

theorem get_model {k : Int} (h0 : 0 ≤ k) (h1 : k ≤ 32000) : get S k = match hit (fits (need k)) 0 S with
    | none => (S, 0, 2)
    | some i => (cutAt S i (need k) (zeros (need k - 1)), (sz (S.take i) : Int) + 1, 0) := by
  unfold get; rw [if_neg (by omega)]; rfl

theorem get_full (h : Repo g S w) {s : Nat} (hs : g.s = s) (k : Int) :
    Calls Try.prog 18 #[.pointer (some ⟨s, 0, none⟩), .int .i64 k] w fun e w' => e = .returned (.tuple #[.int .i64 (get S k).2.1, .int .i64 (get S k).2.2]) ∧ ∃ g', Repo g' (get S k).1 w' ∧ Step g g' w w' := by
  by_cases hk : k < 0 ∨ 32000 < k
  · refine (get_range k hk w s).mono ?_
    rintro e w' ⟨rfl, hB⟩
    have : get S k = (S, 0, 1) := by unfold get; rw [if_pos hk]
    rw [this]
    exact ⟨rfl, g, ⟨h.rep.below hB (Nat.le_refl _), h.ok⟩, Step.bel hB⟩
  · have h0 : 0 ≤ k := by omega
    have h1 : k ≤ 32000 := by omega
    refine (get_calls h.rep h.ok.le hs k h0 h1 rfl).mono ?_
    have hmap := h.rep.map
    rintro e w' (⟨hno, rfl, hB⟩ | ⟨A, x, B, hAB, hf, hne, rfl, g', R, v, hR, e2, r2, s2⟩)
    · have : get S k = (S, 0, 2) := by rw [get_model h0 h1, hmap, hit_none_of hno]
      rw [this]
      exact ⟨rfl, g, ⟨h.rep.below hB (Nat.le_refl _), h.ok⟩, Step.bel hB⟩
    · have eS : S = bs A ++ x.b :: bs B := by rw [hmap, hAB, bs_append, bs_cons]
      have : get S k = (bs A ++ ⟨need k, true, zeros (need k - 1)⟩ :: (rest x.b.size (need k) ++ bs B), (sz (bs A) : Int) + 1, 0) := by
        rw [get_model h0 h1, hmap, hAB, hit_some_of hf hne]
        simp only [cutAt, bs_append, bs_cons, take_left, drop_left]
      rw [this]
      have hok' : Ok g.n (bs A ++ x.b :: bs B) := eS ▸ h.ok
      simp only [fits, Bool.and_eq_true, Bool.not_eq_true', decide_eq_true_eq] at hf
      have hbs : bs g'.L = bs A ++ ⟨need k, true, zeros (need k - 1)⟩ :: (rest x.b.size (need k) ++ bs B) := by rw [e2]; simp [hR]
      refine ⟨rfl, g', ⟨by rw [← hbs]; exact r2, ?_⟩, s2⟩
      rw [s2.n]
      exact take_ok hok' hf.1 hf.2 (need_good k).1 (need_good k).2 _ (good_zeros (need_good k).1 (need_good k).2)
end
end Go.Sto

/-
  word, Size, Read and Write, walked, as the plain model has them.
-/
namespace Go.Sto
open Go.Own Go.RowKit Go.Proofs

section
variable {g : Ghost} {S : St} {w w' : World}

theorem find_none_of (h : S = bs g.L) {a : Int} (hno : ∀ A x B, g.L = A ++ x :: B → isAt a (sz (bs A)) x.b = false) : find a S = none := by rw [h]; exact hit_none_of hno
theorem find_some_of (h : S = bs g.L) {a : Int} {A B : List Nd} {x : Nd} (hAB : g.L = A ++ x :: B) (hx : isAt a (sz (bs A)) x.b = true) (hne : ∀ A' y B', A = A' ++ y :: B' → isAt a (sz (bs A')) y.b = false) : find a S = some A.length := by
  rw [h, hAB, ← bs_length A]; exact hit_some_of hx hne
theorem wordsAt_of (h : S = bs g.L) {A B : List Nd} {x : Nd} (hAB : g.L = A ++ x :: B) : wordsAt S A.length = x.b.ws := by
  rw [h, hAB, bs_append, bs_cons, ← bs_length A]; unfold wordsAt; rw [drop_left]
theorem used_of {a : Int} {A : Nat} {x : Blk} (h : isAt a A x = true) : x.used = true := by
  simp only [isAt, Bool.and_eq_true] at h; exact h.1

theorem Repo.nd (h : Repo g S w) {A B : List Nd} {x : Nd} (hAB : g.L = A ++ x :: B) (hu : x.b.used = true) :
    ∃ b off cap, x.v = .slice (some ⟨b, off, none⟩) x.b.ws.length cap ∧ x.b.ws.length ≤ cap ∧ cap ≤ maxLen ∧ SliceAt w 3 1 (.slice (some ⟨b, off, none⟩) x.b.ws.length cap) (icells x.b.ws) ∧ g.ρ b = (2, (x.p : Int)) ∧ x.b.ws.length + 1 = x.b.size ∧ x.b.size ≤ 32000 := by
  have hxL : x ∈ g.L := by rw [hAB]; simp
  have hw := h.rep.wv x hxL
  have hg := h.ok.good x.b (by rw [h.rep.map]; exact List.mem_map_of_mem hxL)
  obtain ⟨sa, n, cap, hv, hl, hnc, hcm, -⟩ := hw.1.form
  have hn : n = x.b.ws.length := by simpa using hl.symm
  subst hn
  have hs := hw.1
  rw [hv] at hs
  obtain ⟨b, off, rfl⟩ := hs.addr (by have := hg.full hu; have := hg.two; omega)
  refine ⟨b, off, cap, hv, hnc, hcm, hs, hw.2 b (by rw [hv]; rfl), hg.full hu, ?_⟩
  have := h.ok.le
  rw [h.rep.map, hAB, bs_append, sz_append] at this
  simp [sz] at this; omega

/-- What word tells: the place of a word, or an error. -/
def WordPost (g : Ghost) (S : St) (a i : Int) (w : World) (e : Ending) (w' : World) : Prop :=
  Below w.heap.size w w' ∧
  ((find a S = none ∧ e = .returned (.tuple #[.pointer none, .int .i64 180])) ∨
   (∃ j, find a S = some j ∧ (i < 0 ∨ (wordsAt S j).length ≤ i) ∧ e = .returned (.tuple #[.pointer none, .int .i64 1])) ∨
   ∃ A x B b off cap, find a S = some A.length ∧ g.L = A ++ x :: B ∧ x.b.used = true ∧ x.v = .slice (some ⟨b, off, none⟩) x.b.ws.length cap ∧ 0 ≤ i ∧ i < x.b.ws.length ∧ e = .returned (.tuple #[.pointer (some ⟨b, off + i.toNat, none⟩), .int .i64 0]) ∧
      w'.cell? ⟨b, off + i.toNat, none⟩ = some (.int .i64 (x.b.ws.getD i.toNat 0)) ∧ w'.frozen? ⟨b, off + i.toNat, none⟩ = false)

theorem find_cases (h : S = bs g.L) (a : Int) : (find a S = none ∧ ∀ A x B, g.L = A ++ x :: B → isAt a (sz (bs A)) x.b = false) ∨
    ∃ A x B, g.L = A ++ x :: B ∧ isAt a (sz (bs A)) x.b = true ∧ (∀ A' y B', A = A' ++ y :: B' → isAt a (sz (bs A')) y.b = false) ∧ find a S = some A.length := by
  cases hf : find a S with
  | none =>
    refine .inl ⟨rfl, fun A x B e => ?_⟩
    have := of_hit_none hf (A := bs A) (y := x.b) (B := bs B) (by rw [h, e, bs_append, bs_cons])
    rwa [Nat.zero_add] at this
  | some i =>
    obtain ⟨A, x, B, e, hl, hx, hA⟩ := hit_some hf
    rw [h] at e
    obtain ⟨A1, z, B1, e1, rfl, rfl, rfl⟩ := bs_split e
    rw [Nat.zero_add] at hx
    refine .inr ⟨A1, z, B1, e1, hx, fun A' y B' e2 => ?_, by rw [← hl, bs_length]⟩
    have := hA (bs A') y.b (bs B') (by rw [e2, bs_append, bs_cons])
    rwa [Nat.zero_add] at this

theorem used_none (h : Rep g S w) (hsz : sz S ≤ 32000) {s : Nat} (hs : g.s = s) {a : Int} (hno : ∀ A x B, g.L = A ++ x :: B → isAt a (sz (bs A)) x.b = false) :
    Calls Try.prog 48 #[.pointer (some ⟨s, 0, none⟩), .int .i64 a] w fun e w' => e = .returned (.pointer none) ∧ Below w.heap.size w w' := by
  refine (used_calls h hsz hs a).mono ?_
  rintro e w1 ⟨hB, (⟨rfl, -⟩ | ⟨A, x, B, hAB, rfl, hat, hne⟩)⟩
  · exact ⟨rfl, hB⟩
  · rw [hno A x B hAB] at hat; cases hat

theorem used_hit (h : Rep g S w) (hsz : sz S ≤ 32000) {s : Nat} (hs : g.s = s) {a : Int} {A B : List Nd} {x : Nd} (hAB : g.L = A ++ x :: B) (hat : isAt a (sz (bs A)) x.b = true) (hne : ∀ A' y B', A = A' ++ y :: B' → isAt a (sz (bs A')) y.b = false) :
    Calls Try.prog 48 #[.pointer (some ⟨s, 0, none⟩), .int .i64 a] w fun e w' => e = .returned (.pointer (some ⟨x.p, 0, none⟩)) ∧ Below w.heap.size w w' := by
  refine (used_calls h hsz hs a).mono ?_
  rintro e w1 ⟨hB, (⟨rfl, hno⟩ | ⟨A1, x1, B1, hAB1, rfl, hat1, hne1⟩)⟩
  · rw [hno A x B hAB] at hat; cases hat
  · have e1 := find_some_of h.map hAB hat hne
    have e2 := find_some_of h.map hAB1 hat1 hne1
    rw [e1] at e2
    have hl : A.length = A1.length := by simpa using e2
    have := List.append_inj (hAB.symm.trans hAB1) hl
    have : x = x1 := by have := this.2; simp at this; exact this.1
    rw [this]
    exact ⟨rfl, hB⟩

theorem word_neg (h : Repo g S w) {s : Nat} (hs : g.s = s) (a i : Int) (hi : i < 0) :
    Calls Try.prog 51 #[.pointer (some ⟨s, 0, none⟩), .int .i64 a, .int .i64 i] w (WordPost g S a i w) := by
  subst hs
  have q1 : decide (i < 0) = true := by simp; omega
  have HI := Lib.hid hi
  clear hi
  rcases find_cases h.rep.map a with ⟨hf, hno⟩ | ⟨A, x, B, hAB, hat, hne, hf⟩
  · have hc := Lib.hid (used_none h.rep h.ok.le rfl hno)
    have HF := Lib.hid hf
    clear hf hno
    go_enter Try.func51, Try.ntmps51
    go_wp2_with (go_at_call 48; refine hc.out.mono ?_; rintro e w1 ⟨rfl, hB⟩)
    go_ret2
    exact ⟨hB, .inl ⟨HF.out, rfl⟩⟩
  · have hc := Lib.hid (used_hit h.rep h.ok.le rfl hAB hat hne)
    have HF := Lib.hid hf
    clear hf hne hat hAB
    go_enter Try.func51, Try.ntmps51
    go_wp2_with (go_at_call 48; refine hc.out.mono ?_; rintro e w1 ⟨rfl, hB⟩)
    go_ret2
    exact ⟨hB, .inr (.inl ⟨_, HF.out, .inl HI.out, rfl⟩)⟩

theorem word_nat (h : Repo g S w) {s : Nat} (hs : g.s = s) (a : Int) (j : Nat) :
    Calls Try.prog 51 #[.pointer (some ⟨s, 0, none⟩), .int .i64 a, .int .i64 j] w (WordPost g S a j w) := by
  subst hs
  have q1 : decide ((j : Int) < 0) = false := by simp
  rcases find_cases h.rep.map a with ⟨hf, hno⟩ | ⟨A, x, B, hAB, hat, hne, hf⟩
  · have hc := Lib.hid (used_none h.rep h.ok.le rfl hno)
    have HF := Lib.hid hf
    clear hf hno
    go_enter Try.func51, Try.ntmps51
    go_wp2_with (go_at_call 48; refine hc.out.mono ?_; rintro e w1 ⟨rfl, hB⟩)
    go_ret2
    exact ⟨hB, .inl ⟨HF.out, rfl⟩⟩
  · have hc := Lib.hid (used_hit h.rep h.ok.le rfl hAB hat hne)
    have HF := Lib.hid (And.intro hf (And.intro hAB hat))
    obtain ⟨b, off, cap, hv, hnc, hcm, hs, -, hful, hle⟩ := h.nd hAB (used_of hat)
    have HV := Lib.hid hv
    have hwl := wordsAt_of h.rep.map hAB
    have HW := Lib.hid hwl
    have hcell : ∀ w1, Below w.heap.size w w1 → w1.cell? ⟨x.p, 3, none⟩ = some (.slice (some ⟨b, off, none⟩) x.b.ws.length cap) := fun w1 hB => by
      rw [← hv]; exact (nd_cells (h.rep.cells hB hAB)).2.2.2.1
    have HS := Lib.hid hs
    clear hf hne hat hAB hv hwl hs
    by_cases hj : j < x.b.ws.length
    · have q2 : decide (((x.b.ws.length : Nat) : Int) ≤ j) = false := by simp; omega
      have q3 : decide (x.b.ws.length ≤ j) = false := by simp; omega
      go_enter Try.func51, Try.ntmps51
      go_wp2_with (go_at_call 48; refine hc.out.mono ?_; rintro e w1 ⟨rfl, hB⟩; have hc3 := hcell w1 hB; clear hcell)
      go_ret2
      refine ⟨hB, .inr (.inr ⟨A, x, B, b, off, cap, HF.out.1, HF.out.2.1, used_of HF.out.2.2, HV.out, by omega, by omega, rfl, ?_, ?_⟩)⟩
      · have h1 := HS.out.cells j (.int .i64 (x.b.ws.getD j 0)) (by simp [icells, hj])
        simp only [Int.toNat_natCast]
        rw [← h1]
        exact hB.cell (p := ⟨b, off + j, none⟩) (cell_lt h1)
      · have h1 := HS.out.cells j (.int .i64 (x.b.ws.getD j 0)) (by simp [icells, hj])
        rw [← HS.out.frozen (off + j)]
        simp only [World.frozen?, Int.toNat_natCast, hB.block b (cell_lt h1)]
    · have q2 : decide (((x.b.ws.length : Nat) : Int) ≤ j) = true := by simp; omega
      have q3 : decide (x.b.ws.length ≤ j) = true := by simp; omega
      go_enter Try.func51, Try.ntmps51
      go_wp2_with (go_at_call 48; refine hc.out.mono ?_; rintro e w1 ⟨rfl, hB⟩; have hc3 := hcell w1 hB; clear hcell)
      go_ret2
      exact ⟨hB, .inr (.inl ⟨_, HF.out.1, .inr (by rw [HW.out]; omega), rfl⟩)⟩

theorem word_calls (h : Repo g S w) {s : Nat} (hs : g.s = s) (a i : Int) :
    Calls Try.prog 51 #[.pointer (some ⟨s, 0, none⟩), .int .i64 a, .int .i64 i] w (WordPost g S a i w) := by
  rcases Int.lt_or_le i 0 with hi | hi
  · exact word_neg h hs a i hi
  · obtain ⟨j, rfl⟩ := Int.eq_ofNat_of_zero_le hi
    exact word_nat h hs a j

theorem read_calls (h : Repo g S w) {s : Nat} (hs : g.s = s) (a i : Int) :
    Calls Try.prog 25 #[.pointer (some ⟨s, 0, none⟩), .int .i64 a, .int .i64 i] w fun e w' => e = .returned (.tuple #[.int .i64 (read S a i).1, .int .i64 (read S a i).2]) ∧ Below w.heap.size w w' := by
  have hmap := Lib.hid h.rep.map
  go_enter Try.func25, Try.ntmps25
  go_wp2_with (go_at_call 51; refine (word_calls h hs a i).mono ?_; rintro e w1 ⟨hB, (⟨hf, rfl⟩ | ⟨j, hf, hi, rfl⟩ | ⟨A, x, B, b, off, cap, hf, hAB, hu, hv, h0, h1, rfl, hc, hfz⟩)⟩)
  · go_ret2
    refine ⟨?_, hB⟩
    unfold read; rw [hf]; rfl
  · go_ret2
    refine ⟨?_, hB⟩
    unfold read; rw [hf]; simp only []; rw [if_pos hi]; rfl
  · go_ret2
    refine ⟨?_, hB⟩
    have e1 : x.b.ws.getD i.toNat 0 = x.b.ws[i.toNat]'(by omega) := by simp [List.getD, show i.toNat < x.b.ws.length from by omega]
    unfold read; rw [hf]; simp only []; rw [wordsAt_of hmap.out hAB, if_neg (by omega), e1]; rfl

theorem size_calls (h : Repo g S w) {s : Nat} (hs : g.s = s) (a : Int) :
    Calls Try.prog 24 #[.pointer (some ⟨s, 0, none⟩), .int .i64 a] w fun e w' => e = .returned (.tuple #[.int .i64 (size S a).1, .int .i64 (size S a).2]) ∧ Below w.heap.size w w' := by
  subst hs
  rcases find_cases h.rep.map a with ⟨hf, hno⟩ | ⟨A, x, B, hAB, hat, hne, hf⟩
  · have hc := Lib.hid (used_none h.rep h.ok.le rfl hno)
    have HF := Lib.hid hf
    clear hf hno
    go_enter Try.func24, Try.ntmps24
    go_wp2_with (go_at_call 48; refine hc.out.mono ?_; rintro e w1 ⟨rfl, hB⟩)
    go_ret2
    refine ⟨?_, hB⟩
    unfold size; rw [HF.out]; rfl
  · have hc := Lib.hid (used_hit h.rep h.ok.le rfl hAB hat hne)
    obtain ⟨b, off, cap, hv, hnc, hcm, hs, -, hful, hle⟩ := h.nd hAB (used_of hat)
    have HF := Lib.hid (And.intro hf (wordsAt_of h.rep.map hAB))
    have hcell : ∀ w1, Below w.heap.size w w1 → w1.cell? ⟨x.p, 3, none⟩ = some (.slice (some ⟨b, off, none⟩) x.b.ws.length cap) := fun w1 hB => by
      rw [← hv]; exact (nd_cells (h.rep.cells hB hAB)).2.2.2.1
    clear hf hne hat hAB hv hs
    go_enter Try.func24, Try.ntmps24
    go_wp2_with (go_at_call 48; refine hc.out.mono ?_; rintro e w1 ⟨rfl, hB⟩; have hc3 := hcell w1 hB; clear hcell)
    go_ret2
    refine ⟨?_, hB⟩
    unfold size; rw [HF.out.1]; simp only []; rw [HF.out.2]; rfl

theorem set_ok {n : Nat} {A : St} {x : Blk} {B : St} (h : Ok n (A ++ x :: B)) (ws : List Int) (hl : ws.length = x.ws.length) (hw : ∀ v ∈ ws, (Lit.int .i64 v).wf = true) : Ok n (A ++ ⟨x.size, x.used, ws⟩ :: B) := by
  have hx := h.good x (by simp)
  obtain ⟨n1, n2, n3⟩ := norm_append.1 h.norm
  obtain ⟨m1, m2⟩ := norm_cons.1 n2
  refine ⟨h.lo, h.hi, h.even, by rw [← h.sum, sz_append, sz_append]; rfl, fun b hb => ?_, norm_append.2 ⟨n1, norm_cons.2 ⟨m1, m2⟩, fun A' a b B' e1 e2 => by cases e2; exact n3 A' a x B e1 rfl⟩⟩
  rcases List.mem_append.1 hb with hb | hb
  · exact h.good b (by simp [hb])
  · rcases List.mem_cons.1 hb with rfl | hb
    · refine ⟨hx.two, hx.even, fun hu => by rw [hl]; exact hx.full hu, fun hu => ?_, hw⟩
      have := hx.bare hu
      rw [this] at hl
      exact List.eq_nil_of_length_eq_zero hl
    · exact h.good b (by simp [hb])

/-- The words of a block in use are others. -/
theorem Repo.setWords (h : Repo g S w) {A B : List Nd} {x : Nd} (hAB : g.L = A ++ x :: B) {b off cap : Nat} (hv : x.v = .slice (some ⟨b, off, none⟩) x.b.ws.length cap) (ws : List Int) (hl : ws.length = x.b.ws.length) (hw : ∀ v ∈ ws, (Lit.int .i64 v).wf = true)
    (hko : KeepsOthers w w') (t : Turn (fun k => k = b) w w') (hs : SliceAt w' 3 1 (.slice (some ⟨b, off, none⟩) x.b.ws.length cap) (icells ws)) : ∃ g', Repo g' (Sto.setWords S A.length ws) w' ∧ Step g g' w w' := by
  have hxL : x ∈ g.L := by rw [hAB]; simp
  have hbt : g.ρ b = (2, (x.p : Int)) := (h.rep.wv x hxL).2 b (by rw [hv]; rfl)
  have hne : x.p ≠ b := fun e => by have := h.rep.tp x hxL; rw [e, hbt] at this; cases this
  have eS : S = bs A ++ x.b :: bs B := by rw [h.rep.map, hAB, bs_append, bs_cons]
  obtain ⟨g', e1, r1, s1⟩ := h.rep.refill hAB ⟨x.b.size, x.b.used, ws⟩ rfl x.v hko (t.mono fun k _ hk => by rw [hk]; exact .inr hbt)
    (by rw [t.block x.p (h.rep.plt hxL) hne]; exact h.rep.mid hAB)
    (by rw [hv]; exact hs) (fun k hk => by rw [hv] at hk; cases hk; exact .inr hbt)
  have e2 : Sto.setWords S A.length ws = bs g'.L := by
    rw [eS, ← bs_length A]
    unfold Sto.setWords
    rw [drop_left, take_left, e1]; simp
  refine ⟨g', ⟨by rw [e2]; exact r1, ?_⟩, s1⟩
  rw [e2, e1, s1.n]
  have := set_ok (eS ▸ h.ok) ws hl hw
  simpa using this

theorem write_calls (h : Repo g S w) {s : Nat} (hs : g.s = s) (a i v : Int) (hw : (Lit.int .i64 v).wf = true) :
    Calls Try.prog 26 #[.pointer (some ⟨s, 0, none⟩), .int .i64 a, .int .i64 i, .int .i64 v] w fun e w' => e = .returned (.int .i64 (write S a i v).2) ∧ ∃ g', Repo g' (write S a i v).1 w' ∧ Step g g' w w' := by
  have hmap := Lib.hid h.rep.map
  have H := Lib.hid (And.intro h hw)
  go_enter Try.func26, Try.ntmps26
  go_wp2_with (go_at_call 51; refine (word_calls h hs a i).mono ?_; rintro e w1 ⟨hB, (⟨hf, rfl⟩ | ⟨j, hf, hi, rfl⟩ | ⟨A, x, B, b, off, cap, hf, hAB, hu, hv, h0, h1, rfl, hc, hfz⟩)⟩)
  · go_ret
    have : write S a i v = (S, 180) := by unfold write; rw [hf]
    rw [this]
    exact ⟨rfl, g, ⟨H.out.1.rep.below hB (Nat.le_refl _), H.out.1.ok⟩, Step.bel hB⟩
  · go_ret
    have : write S a i v = (S, 1) := by unfold write; rw [hf]; simp only []; rw [if_pos hi]
    rw [this]
    exact ⟨rfl, g, ⟨H.out.1.rep.below hB (Nat.le_refl _), H.out.1.ok⟩, Step.bel hB⟩
  · go_ret
    have e1 : write S a i v = (setWords S A.length (x.b.ws.set i.toNat v), 0) := by
      unfold write; rw [hf]; simp only []; rw [wordsAt_of hmap.out hAB, if_neg (by omega)]
    rw [e1]
    have h1 : Repo g S w1 := ⟨H.out.1.rep.below hB (Nat.le_refl _), H.out.1.ok⟩
    obtain ⟨b', off', cap', hv', -, -, hsl, -⟩ := h1.nd hAB hu
    rw [hv] at hv'
    cases hv'
    have hset := hsl.set i.toNat (.int .i64 v) (by simp; omega)
    obtain ⟨g', r', s'⟩ := h1.setWords hAB hv (x.b.ws.set i.toNat v) (by simp) (fun u hu' => by
        rcases List.mem_or_eq_of_mem_set hu' with hu' | rfl
        · exact (h1.ok.good x.b (by rw [h1.rep.map, hAB]; simp)).wf u hu'
        · exact H.out.2) (KeepsOthers.setCell _ _ _) ((Turn.refl (fun k => k = b) _).setCell (p := ⟨b, off + i.toNat, none⟩) (fun _ => rfl) _) (by
        have e2 : icells (x.b.ws.set i.toNat v) = (icells x.b.ws).set i.toNat (.int .i64 v) := by simp [icells, List.map_set]
        rw [e2]; exact hset)
    exact ⟨rfl, g', r', (Step.bel hB).trans s'⟩
end
end Go.Sto
