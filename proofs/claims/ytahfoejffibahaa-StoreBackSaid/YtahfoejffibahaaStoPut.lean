/-
  Get and Put, as the plain model has them.
-/
import Derived.Test.YtahfoejffibahaaStoGet
import Derived.Test.YtahfoejffibahaaStoPure1
namespace Go.Sto
open Go.Own Go.RowKit Go.Proofs

section
variable {g : Ghost} {S : St} {w w' : World}

/-- The store's memory and what always holds of it. -/
structure Repo (g : Ghost) (S : St) (w : World) : Prop where
  rep : Rep g S w
  ok : Ok g.n S

theorem Ok.le {n : Nat} {S : St} (h : Ok n S) : sz S ≤ 32000 := by rw [h.sum]; exact h.hi
theorem Ok.bare {n : Nat} {S : St} (h : Ok n S) : ∀ b ∈ S, b.used = false → b.ws = [] := fun b hb => (h.good b hb).bare

theorem bs_split {L : List Nd} {A' : St} {y : Blk} {B' : St} (h : bs L = A' ++ y :: B') : ∃ A x B, L = A ++ x :: B ∧ bs A = A' ∧ x.b = y ∧ bs B = B' := by
  obtain ⟨A, R, rfl, hA, hR⟩ := List.map_eq_append_iff.1 h
  obtain ⟨x, B, rfl, hx, hB⟩ := List.map_eq_cons_iff.1 hR
  exact ⟨A, x, B, rfl, hA, hx, hB⟩

theorem hit_none_of {p : Nat → Blk → Bool} {L : List Nd} (h : ∀ A x B, L = A ++ x :: B → p (sz (bs A)) x.b = false) : hit p 0 (bs L) = none :=
  hit_none fun A y B e => by
    obtain ⟨A1, x, B1, rfl, rfl, rfl, rfl⟩ := bs_split e
    rw [Nat.zero_add]; exact h A1 x B1 rfl

theorem hit_some_of {p : Nat → Blk → Bool} {A B : List Nd} {x : Nd} (hx : p (sz (bs A)) x.b = true) (h : ∀ A' y B', A = A' ++ y :: B' → p (sz (bs A')) y.b = false) : hit p 0 (bs (A ++ x :: B)) = some (bs A).length := by
  rw [bs_append, bs_cons]
  exact hit_at (by rwa [Nat.zero_add]) fun A' y B' e => by
    obtain ⟨A1, z, B1, rfl, rfl, rfl, rfl⟩ := bs_split e
    rw [Nat.zero_add]; exact h A1 z B1 rfl

theorem Step.bel (hB : Below w.heap.size w w') : Step g g w w' := Step.below hB (Nat.le_refl _)

theorem get_range (k : Int) (hk : k < 0 ∨ 32000 < k) (w : World) (s : Nat) :
    Calls Try.prog 18 #[.pointer (some ⟨s, 0, none⟩), .int .i64 k] w fun e w' => e = .returned (.tuple #[.int .i64 0, .int .i64 1]) ∧ Below w.heap.size w w' := by
  rcases Int.lt_or_le k 0 with hk' | hk'
  · have q1 : decide (k < 0) = true := by simp; omega
    go_enter Try.func18, Try.ntmps18
    go_wp2
    refine ⟨by simp, .tuple #[.int .i64 0, .int .i64 1], by simp [results, Try.f18, go_sem], rfl, ((Below.refl _ w).alloc (Nat.le_refl _) _).alloc (by simp) _⟩
  · have q1 : decide (k < 0) = false := by simp; omega
    have q2 : decide (32000 < k) = true := by simp; omega
    go_enter Try.func18, Try.ntmps18
    go_wp2
    refine ⟨by simp, .tuple #[.int .i64 0, .int .i64 1], by simp [results, Try.f18, go_sem], rfl, ((Below.refl _ w).alloc (Nat.le_refl _) _).alloc (by simp) _⟩

theorem put_calls (h : Repo g S w) {s : Nat} (hs : g.s = s) (a : Int) :
    Calls Try.prog 19 #[.pointer (some ⟨s, 0, none⟩), .int .i64 a] w fun e w' => e = .returned (.int .i64 (put S a).2) ∧ ∃ g', Repo g' (put S a).1 w' ∧ Step g g' w w' := by
  subst hs
  obtain ⟨hr, hok⟩ := h
  have hsz := hok.le
  have hbare := hok.bare
  have HS := Lib.hid hr.map
  go_enter Try.func19, Try.ntmps19
  go_wp2_with (first
    | (go_at_call 48; refine (used_calls hr hsz rfl a).mono ?_
       rintro e w1 ⟨hB, (⟨rfl, hno⟩ | ⟨A, x, B, hAB, rfl, hat, hne⟩)⟩)
    | (go_at_call 49; refine (free_calls (hr.below hB (Nat.le_refl _)) hAB hsz hbare rfl).mono ?_
       rintro e w2 ⟨rfl, g2, e2, r2, s2⟩))
  · go_ret
    have e : put S a = (S, 180) := by unfold put find; rw [HS.out, hit_none_of hno]
    rw [e]
    exact ⟨rfl, g, ⟨hr.below hB (Nat.le_refl _), hok⟩, Step.bel hB⟩
  · go_ret
    have eS : S = bs A ++ x.b :: bs B := by rw [HS.out, hAB, bs_append, bs_cons]
    have e : put S a = (fuse (bs A ++ hole x.b.size :: bs B), 0) := by
      unfold put find
      rw [HS.out, hAB, hit_some_of hat hne]
      simp only [freeAt, bs_append, bs_cons, take_left, drop_left]
    rw [e]
    have hok' : Ok g.n (bs A ++ x.b :: bs B) := eS ▸ hok
    refine ⟨rfl, g2, ⟨?_, ?_⟩, (Step.bel hB).trans s2⟩
    · rw [fuse_free hok'.norm, ← e2]; exact r2
    · rw [s2.n]; exact put_ok hok'

theorem get_model {k : Int} (h0 : 0 ≤ k) (h1 : k ≤ 32000) : get S k = match hit (fits (need k)) 0 S with
    | none => (S, 0, 2)
    | some i => (cutAt S i (need k) (zeros (need k - 1)), (sz (S.take i) : Int) + 1, 0) := by
  unfold get; rw [if_neg (by omega)]; rfl

theorem get_full (h : Repo g S w) {s : Nat} (hs : g.s = s) (k : Int) :
    Calls Try.prog 18 #[.pointer (some ⟨s, 0, none⟩), .int .i64 k] w fun e w' => e = .returned (.tuple #[.int .i64 (get S k).2.1, .int .i64 (get S k).2.2]) ∧ ∃ g', Repo g' (get S k).1 w' ∧ Step g g' w w' := by
  by_cases hk : k < 0 ∨ 32000 < k
  · refine (get_range k hk w s).mono ?_
    rintro e w' ⟨rfl, hB⟩
    have : get S k = (S, 0, 1) := by unfold get; rw [if_pos hk]
    rw [this]
    exact ⟨rfl, g, ⟨h.rep.below hB (Nat.le_refl _), h.ok⟩, Step.bel hB⟩
  · have h0 : 0 ≤ k := by omega
    have h1 : k ≤ 32000 := by omega
    refine (get_calls h.rep h.ok.le hs k h0 h1 rfl).mono ?_
    have hmap := h.rep.map
    rintro e w' (⟨hno, rfl, hB⟩ | ⟨A, x, B, hAB, hf, hne, rfl, g', R, v, hR, e2, r2, s2⟩)
    · have : get S k = (S, 0, 2) := by rw [get_model h0 h1, hmap, hit_none_of hno]
      rw [this]
      exact ⟨rfl, g, ⟨h.rep.below hB (Nat.le_refl _), h.ok⟩, Step.bel hB⟩
    · have eS : S = bs A ++ x.b :: bs B := by rw [hmap, hAB, bs_append, bs_cons]
      have : get S k = (bs A ++ ⟨need k, true, zeros (need k - 1)⟩ :: (rest x.b.size (need k) ++ bs B), (sz (bs A) : Int) + 1, 0) := by
        rw [get_model h0 h1, hmap, hAB, hit_some_of hf hne]
        simp only [cutAt, bs_append, bs_cons, take_left, drop_left]
      rw [this]
      have hok' : Ok g.n (bs A ++ x.b :: bs B) := eS ▸ h.ok
      simp only [fits, Bool.and_eq_true, Bool.not_eq_true', decide_eq_true_eq] at hf
      have hbs : bs g'.L = bs A ++ ⟨need k, true, zeros (need k - 1)⟩ :: (rest x.b.size (need k) ++ bs B) := by rw [e2]; simp [hR]
      refine ⟨rfl, g', ⟨by rw [← hbs]; exact r2, ?_⟩, s2⟩
      rw [s2.n]
      exact take_ok hok' hf.1 hf.2 (need_good k).1 (need_good k).2 _ (good_zeros (need_good k).1 (need_good k).2)
end
end Go.Sto
