/-
  turn, whole: under the plain law's invariant.
-/
import Derived.Test.YtcfegaclbkggpaaRndTurnR
import Derived.Test.YtcfegaclbkggpaaRndTurnM
import Derived.Test.YtcfegaclbkggpaaRndPlain
namespace Go.Rnd
open Go.Own Go.RowKit Go.Proofs

theorem KS.Ok.of {K K' : KS} (h : K.Ok) (hn : K'.n = K.n) (hp : ∀ i, (K'.ts i).pri = (K.ts i).pri) : K'.Ok :=
  ⟨fun i i1 i2 => by rw [hp]; exact h.pos i i1 (hn ▸ i2), fun i j i1 i2 j1 j2 e => by rw [hp, hp] at e; exact h.apart i j i1 (hn ▸ i2) j1 (hn ▸ j2) e⟩

theorem pri_upd (ts : Nat → TK) (t : Nat) (x : TK) (h : x.pri = (ts t).pri) (i : Nat) : (updN ts t x i).pri = (ts i).pri := by
  by_cases e : i = t
  · subst e; rw [updN_self]; exact h
  · rw [updN_ne _ _ e]

theorem bnd {a b x y : Nat} (h : a + x ≤ 3000) (hxy : y < x) (hb : b ≤ a + 1) : b + y ≤ 3000 := by omega

structure Big (g : Gh) (σ : Tags) (lb n P : Nat) (f : Nat → SV) (K : KS) (T S : Nat → Nat) (M : Nat) (w : World) (kb : Nat) : Prop where
  R : Rep g K w
  sv : Sv g σ lb n f w
  ok : K.Ok
  k : g.k = kb
  inv : Inv n P K f T S M
  n8 : n ≤ 8
  P30 : P ≤ 30
  c : K.c + phi n P K T S M ≤ 3000
  v : K.v + phi n P K T S M ≤ 3000

section
variable {g g' : Gh} {σ σ' : Tags} {lb n P : Nat} {f : Nat → SV} {w w' : World} {K K' : KS} {T S : Nat → Nat} {M kb : Nat}

theorem Big.q_len (B : Big g σ lb n P f K T S M w kb) {j : Nat} (h1 : 1 ≤ j) (h2 : j ≤ n) : (K.ts j).q.length ≤ 30 := by
  obtain ⟨s, s1, s2, rfl⟩ := nx_sur h1 h2
  rw [(B.inv.q s s1 s2).1, List.length_range']
  have := B.inv.S_le s1 s2
  have := B.inv.mP
  have := B.P30
  omega

theorem Big.fit (B : Big g σ lb n P f K T S M w kb) {i t : Nat} (ht : t = i + 1) (hi : i < n) (hb : K.Best t) : Fit g σ lb n f K w kb i t where
  R := B.R
  S := B.sv
  ok := B.ok
  k := B.k
  et := ht
  ei := hi
  en := B.inv.kn
  n2 := B.inv.n2
  n8 := B.n8
  best := hb
  c := by have := B.c; omega
  m := by have := B.inv.km; have := B.inv.mP; have := B.P30; omega
  q := fun j h1 h2 => by have := B.q_len h1 (by rw [← B.inv.kn]; exact h2); omega
  v := by have := B.v; omega
  took := by
    rw [B.inv.took i hi, List.length_range']
    have := B.inv.T_le (t := i + 1) (by omega) (by omega)
    have := B.inv.mP
    have := B.P30
    omega
  made := by
    by_cases e : i = 0
    · subst e
      rw [B.inv.made0]
      have := B.inv.mP
      have := B.P30
      omega
    · rw [B.inv.made i (by omega)]
      omega

def TurnAll (g : Gh) (σ : Tags) (lb n P : Nat) (K : KS) (T S : Nat → Nat) (M : Nat) (w : World) (kb : Nat) (e : Ending) (w' : World) : Prop :=
  e = .returned (.bool true) ∧ ∃ g' σ' f' K' T' S' M', Big g' σ' lb n P f' K' T' S' M' w' kb ∧ phi n P K' T' S' M' < phi n P K T S M ∧ Step2 g g' σ σ' w w'

theorem turn_calls (B : Big g σ lb n P f K T S M w kb) {t : Nat} (hb : K.Best t) (t1 : 1 ≤ t) :
    Calls Try.prog 9 #[pt kb, .slice (some ⟨lb, 0, none⟩) n n, .int .i64 t, .int .i64 P] w (TurnAll g σ lb n P K T S M w kb) := by
  have hw : (K.ts t).wt = false ∧ t ≤ n := by
    rcases hb with ⟨h0, -⟩ | ⟨-, h2, h3, -⟩
    · omega
    · exact ⟨h3, by rw [← B.inv.kn]; exact h2⟩
  obtain ⟨i, rfl⟩ : ∃ i, t = i + 1 := ⟨t - 1, by omega⟩
  have hi : i < n := by omega
  have F := B.fit rfl hi hb
  have hc := B.c
  have hv := B.v
  cases hs : (f i).sends with
  | cons p r =>
    obtain ⟨rfl, rfl, p1, p2, p3, I, hphi⟩ := B.inv.send rfl hi hs
    refine (turn_send F hs p1 p2 p3 P).mono ?_
    rintro e w' ⟨rfl, g', σ', R', S', T'⟩
    refine ⟨rfl, g', σ', _, _, _, _, _, ⟨R', S', B.ok.of rfl (pri_upd _ _ _ rfl), T'.k.trans B.k, I, B.n8, B.P30, bnd hc hphi (Nat.le_refl _), bnd hv hphi (Nat.le_refl _)⟩, hphi, T'⟩
  | nil =>
    by_cases hm : i = 0 ∧ M < P
    · obtain ⟨rfl, hMP⟩ := hm
      obtain ⟨I, hphi⟩ := B.inv.make hs hMP
      refine (turn_make F hs P rfl (by omega) B.inv.made0 B.inv.km rfl).mono ?_
      rintro e w' ⟨rfl, g', σ', R', S', T'⟩
      refine ⟨rfl, g', σ', _, _, _, _, _, ⟨R', S', B.ok.of rfl (fun _ => rfl), T'.k.trans B.k, I, B.n8, B.P30, bnd hc hphi (Nat.le_refl _), bnd hv hphi (Nat.le_succ _)⟩, hphi, T'⟩
    · have hPm : ¬ (i + 1 = 1 ∧ ((f i).made : Int) < (P : Int)) := by
        rintro ⟨h1, h2⟩
        obtain rfl : i = 0 := by omega
        rw [B.inv.made0] at h2
        exact hm ⟨rfl, by omega⟩
      cases hq : (K.ts (i + 1)).q with
      | cons p r =>
        obtain ⟨rfl, p1, p2, I, hphi⟩ := B.inv.take rfl hi hs hq hw.1
        refine (turn_take F hs P hPm hq p2 p1).mono ?_
        rintro e w' ⟨rfl, g', σ', R', S', T'⟩
        refine ⟨rfl, g', σ', _, _, _, _, _, ⟨R', S', B.ok.of rfl (pri_upd _ _ _ rfl), T'.k.trans B.k, I, B.n8, B.P30, bnd hc hphi (Nat.le_refl _), bnd hv hphi (Nat.le_succ _)⟩, hphi, T'⟩
      | nil =>
        obtain ⟨I, hphi⟩ := B.inv.rest rfl hi hs hq (fun e => by
          have := B.inv.mP
          by_cases h : M < P
          · exact absurd ⟨by omega, h⟩ hm
          · omega) hw.1
        refine (turn_rest F hs P hPm hq).mono ?_
        rintro e w' ⟨rfl, g', σ', R', S', T'⟩
        refine ⟨rfl, g', σ', _, _, _, _, _, ⟨R', S', B.ok.of rfl (pri_upd _ _ _ rfl), T'.k.trans B.k, I, B.n8, B.P30, bnd hc hphi (Nat.le_refl _), bnd hv hphi (Nat.le_succ _)⟩, hphi, T'⟩
end

/-- Some task is the best. -/
theorem best_upto (K : KS) : ∀ m, ∃ t, (t = 0 ∧ ∀ i, 1 ≤ i → i ≤ m → (K.ts i).wt = true) ∨ (1 ≤ t ∧ t ≤ m ∧ (K.ts t).wt = false ∧ ∀ i, 1 ≤ i → i ≤ m → (K.ts i).wt = false → (K.ts i).pri ≤ (K.ts t).pri)
  | 0 => ⟨0, .inl ⟨rfl, fun i _ _ => by omega⟩⟩
  | m + 1 => by
    obtain ⟨t, ht⟩ := best_upto K m
    cases hw : (K.ts (m + 1)).wt with
    | true =>
      refine ⟨t, ?_⟩
      rcases ht with ⟨h1, h2⟩ | ⟨h1, h2, h3, h4⟩
      · refine .inl ⟨h1, fun i i1 i2 => ?_⟩
        by_cases e : i = m + 1
        · rw [e]; exact hw
        · exact h2 i i1 (by omega)
      · refine .inr ⟨h1, by omega, h3, fun i i1 i2 hi => ?_⟩
        by_cases e : i = m + 1
        · rw [e, hw] at hi; cases hi
        · exact h4 i i1 (by omega) hi
    | false =>
      by_cases hp : 1 ≤ t ∧ (K.ts (m + 1)).pri ≤ (K.ts t).pri
      · refine ⟨t, ?_⟩
        rcases ht with ⟨h1, h2⟩ | ⟨h1, h2, h3, h4⟩
        · omega
        · refine .inr ⟨h1, by omega, h3, fun i i1 i2 hi => ?_⟩
          by_cases e : i = m + 1
          · rw [e]; exact hp.2
          · exact h4 i i1 (by omega) hi
      · refine ⟨m + 1, .inr ⟨by omega, Nat.le_refl _, hw, fun i i1 i2 hi => ?_⟩⟩
        by_cases e : i = m + 1
        · rw [e]; exact Int.le_refl _
        · rcases ht with ⟨h1, h2⟩ | ⟨h1, h2, h3, h4⟩
          · rw [h2 i i1 (by omega)] at hi; cases hi
          · have := h4 i i1 (by omega) hi
            omega
theorem best_some (K : KS) : ∃ t, K.Best t := best_upto K K.n

theorem KS.Ok.new : KS.new.Ok := ⟨fun i i1 i2 => by have : i ≤ 0 := i2; omega, fun i j i1 i2 => by have : i ≤ 0 := i2; omega⟩
theorem KS.Best.new : KS.new.Best 0 := .inl ⟨rfl, fun i i1 i2 => by have : i ≤ 0 := i2; omega⟩
theorem KS.Ok.add {K : KS} (h : K.Ok) {p : Int} (h1 : 1 ≤ p) (h2 : p ≤ 1000) (hp : ∀ i, 1 ≤ i → i ≤ K.n → (K.ts i).pri ≠ p) : (K.tick.add p).Ok := by
  have e1 : ((K.tick.add p).ts (K.n + 1)).pri = p := by simp [KS.add, KS.tick]
  have e2 : ∀ i, i ≠ K.n + 1 → (K.tick.add p).ts i = K.ts i := fun i hi => by simp only [KS.add, KS.tick, updN_ne _ _ hi]
  have hn : (K.tick.add p).n = K.n + 1 := rfl
  refine ⟨fun i i1 i2 => ?_, fun i j i1 i2 j1 j2 e => ?_⟩
  · by_cases hi : i = K.n + 1
    · rw [hi, e1]; exact ⟨h1, h2⟩
    · rw [e2 i hi]; exact h.pos i i1 (by omega)
  · by_cases hi : i = K.n + 1 <;> by_cases hj : j = K.n + 1
    · omega
    · rw [hi, e1, e2 j hj] at e
      exact absurd e.symm (hp j j1 (by omega))
    · rw [hj, e1, e2 i hi] at e
      exact absurd e (hp i i1 (by omega))
    · rw [e2 i hi, e2 j hj] at e
      exact h.apart i j i1 (by omega) j1 (by omega) e
end Go.Rnd
