/-
  The plain law: what the servers and the kernel hold in each round; each turn makes the rest less.
-/
import Derived.Test.YtcfegaclbkggpaaRndServ
namespace Go.Rnd

def nx (n t : Nat) : Nat := t % n + 1
theorem nx_lt {n t : Nat} (h2 : t < n) : nx n t = t + 1 := by unfold nx; rw [Nat.mod_eq_of_lt h2]
theorem nx_n (n : Nat) : nx n n = 1 := by unfold nx; rw [Nat.mod_self]
theorem nx_in {n t : Nat} (h1 : 1 ≤ t) (h2 : t ≤ n) : 1 ≤ nx n t ∧ nx n t ≤ n := by
  have := Nat.mod_lt t (show n > 0 by omega)
  unfold nx
  omega
theorem nx_inj {n s t : Nat} (s1 : 1 ≤ s) (s2 : s ≤ n) (t1 : 1 ≤ t) (t2 : t ≤ n) (h : nx n s = nx n t) : s = t := by
  rcases Nat.lt_or_ge s n with hs | hs <;> rcases Nat.lt_or_ge t n with ht | ht
  · rw [nx_lt hs, nx_lt ht] at h; omega
  · obtain rfl : t = n := by omega
    rw [nx_lt hs, nx_n] at h; omega
  · obtain rfl : s = n := by omega
    rw [nx_lt ht, nx_n] at h; omega
  · omega
theorem nx_sur {n t : Nat} (t1 : 1 ≤ t) (t2 : t ≤ n) : ∃ s, 1 ≤ s ∧ s ≤ n ∧ nx n s = t := by
  by_cases h : t = 1
  · exact ⟨n, by omega, Nat.le_refl _, by rw [nx_n, h]⟩
  · exact ⟨t - 1, by omega, by omega, by rw [nx_lt (by omega)]; omega⟩

/-- f 1 + .. + f n. -/
def sm : Nat → (Nat → Nat) → Nat
  | 0, _ => 0
  | n + 1, f => sm n f + f (n + 1)
theorem sm_same {f g : Nat → Nat} : ∀ {n : Nat}, (∀ i, 1 ≤ i → i ≤ n → f i = g i) → sm n f = sm n g
  | 0, _ => rfl
  | n + 1, h => by rw [sm, sm, sm_same fun i h1 h2 => h i h1 (by omega), h (n + 1) (by omega) (Nat.le_refl _)]
theorem sm_upd (f : Nat → Nat) (t x : Nat) : ∀ {n : Nat}, 1 ≤ t → t ≤ n → sm n (updN f t x) + f t = sm n f + x
  | 0, h1, h2 => by omega
  | n + 1, h1, h2 => by
    rw [sm, sm]
    by_cases h : t = n + 1
    · subst h
      rw [updN_self, sm_same (f := updN f (n + 1) x) (g := f) fun i h1 h2 => updN_ne _ _ (by omega)]
      omega
    · rw [updN_ne _ _ (by omega)]
      have := sm_upd f t x h1 (show t ≤ n by omega)
      omega
theorem sm_le {f : Nat → Nat} {b : Nat} : ∀ {n : Nat}, (∀ i, 1 ≤ i → i ≤ n → f i ≤ b) → sm n f ≤ n * b
  | 0, _ => by simp [sm]
  | n + 1, h => by
    have h1 := sm_le (n := n) fun i h1 h2 => h i h1 (by omega)
    have h2 := h (n + 1) (by omega) (Nat.le_refl _)
    rw [sm, Nat.add_mul]
    omega

/-- What task t can have sent on. -/
def src (T : Nat → Nat) (M t : Nat) : Nat := if t = 1 then M else T t

structure Inv (n P : Nat) (K : KS) (f : Nat → SV) (T S : Nat → Nat) (M : Nat) : Prop where
  kn : K.n = n
  n2 : 2 ≤ n
  km : K.m = M
  mP : M ≤ P
  took : ∀ i, i < n → (f i).took = List.range' 1 (T (i + 1))
  made0 : (f 0).made = M
  made : ∀ i, 1 ≤ i → (f i).made = 0
  q : ∀ t, 1 ≤ t → t ≤ n → (K.ts (nx n t)).q = List.range' (T (nx n t) + 1) (S t - T (nx n t)) ∧ T (nx n t) ≤ S t
  sends : ∀ i, i < n → (f i).sends = List.range' (S (i + 1) + 1) (src T M (i + 1) - S (i + 1)) ∧ S (i + 1) ≤ src T M (i + 1) ∧ src T M (i + 1) ≤ S (i + 1) + 1
  at_ : ∀ t, 1 ≤ t → t ≤ n → ∀ p ∈ (K.ts t).q, (K.ps p).at_ = t
  wth : ∀ i, i < n → ∀ p ∈ (f i).sends, (K.ps p).wth = i + 1 ∧ (K.ps p).at_ = 0
  wait : ∀ t, 1 ≤ t → t ≤ n → (K.ts t).wt = true → (K.ts t).q = [] ∧ (f (t - 1)).sends = [] ∧ (t = 1 → M = P)

/-- What is left to be done. -/
def phi (n P : Nat) (K : KS) (T S : Nat → Nat) (M : Nat) : Nat := 2 * sm n (fun t => P - S t) + sm n (fun t => P - T t) + (P - M) + sm n (fun t => if (K.ts t).wt = true then 0 else 1)

section
variable {n P : Nat} {K : KS} {f : Nat → SV} {T S : Nat → Nat} {M : Nat}

theorem Inv.S_le (h : Inv n P K f T S M) : ∀ {t : Nat}, 1 ≤ t → t ≤ n → S t ≤ M
  | 0, h1, _ => by omega
  | t + 1, _, h2 => by
    obtain ⟨-, s2, -⟩ := h.sends t (by omega)
    unfold src at s2
    split at s2
    · exact s2
    · have h3 := h.S_le (t := t) (by omega) (by omega)
      have h4 := (h.q t (by omega) (by omega)).2
      rw [nx_lt (by omega)] at h4
      omega
theorem Inv.T_le (h : Inv n P K f T S M) {t : Nat} (h1 : 1 ≤ t) (h2 : t ≤ n) : T t ≤ M := by
  obtain ⟨s, s1, s2, rfl⟩ := nx_sur h1 h2
  have := (h.q s s1 s2).2
  have := h.S_le s1 s2
  omega
theorem Inv.src_le (h : Inv n P K f T S M) {t : Nat} (h1 : 1 ≤ t) (h2 : t ≤ n) : src T M t ≤ M := by
  unfold src
  split
  · exact Nat.le_refl _
  · exact h.T_le h1 h2

/-- The first task has all and has made all: so has everyone. -/
theorem Inv.all (h : Inv n P K f T S M) (hM : M = P) (hT : P ≤ T 1) : ∀ t, 1 ≤ t → t ≤ n → T t = P := by
  have hS : ∀ k, k < n → P ≤ S (n - k) := by
    intro k
    induction k with
    | zero =>
      intro _
      have := (h.q n (by have := h.n2; omega) (Nat.le_refl _)).2
      rw [nx_n] at this
      simpa using Nat.le_trans hT this
    | succ k ih =>
      intro hk
      have h1 := ih (by omega)
      obtain ⟨-, s2, -⟩ := h.sends (n - k - 1) (by omega)
      have e : n - k - 1 + 1 = n - k := by omega
      rw [e] at s2
      unfold src at s2
      rw [if_neg (by omega)] at s2
      have h4 := (h.q (n - (k + 1)) (by omega) (by omega)).2
      rw [nx_lt (by omega), show n - (k + 1) + 1 = n - k by omega] at h4
      omega
  intro t t1 t2
  have hle := h.T_le t1 t2
  by_cases ht : t = 1
  · subst ht; omega
  · have h1 := hS (n - t) (by omega)
    rw [show n - (n - t) = t by omega] at h1
    obtain ⟨-, s2, -⟩ := h.sends (t - 1) (by omega)
    rw [show t - 1 + 1 = t by omega] at s2
    unfold src at s2
    rw [if_neg ht] at s2
    omega

/-- All wait: the first task has all. -/
theorem Inv.idle (h : Inv n P K f T S M) (hw : ∀ i, 1 ≤ i → i ≤ K.n → (K.ts i).wt = true) : M = P ∧ P ≤ T 1 := by
  have hn := h.n2
  have hM := (h.wait 1 (Nat.le_refl _) (by omega) (hw 1 (Nat.le_refl _) (by rw [h.kn]; omega))).2.2 rfl
  have hS : ∀ t, 1 ≤ t → t ≤ n → S t = M := by
    intro t
    induction t with
    | zero => intro h; omega
    | succ t ih =>
      intro _ h2
      have hw' := h.wait (t + 1) (by omega) h2 (hw (t + 1) (by omega) (by rw [h.kn]; omega))
      obtain ⟨s1, s2, s3⟩ := h.sends t (by omega)
      have hs := hw'.2.1
      rw [show t + 1 - 1 = t by omega, s1] at hs
      have h0 : src T M (t + 1) - S (t + 1) = 0 := by simpa using hs
      by_cases ht : t = 0
      · subst ht
        unfold src at h0 s2
        simp only [Nat.zero_add, if_true] at h0 s2 ⊢
        omega
      · have e := ih (by omega) (by omega)
        obtain ⟨q1, q2⟩ := h.q t (by omega) (by omega)
        rw [nx_lt (by omega)] at q1 q2
        have hq := hw'.1
        rw [q1] at hq
        have h5 : S t - T (t + 1) = 0 := by simpa using hq
        unfold src at h0 s2
        rw [if_neg (by omega)] at h0 s2
        omega
  refine ⟨hM, ?_⟩
  obtain ⟨q1, q2⟩ := h.q n (by omega) (Nat.le_refl _)
  rw [nx_n] at q1 q2
  have hq := (h.wait 1 (Nat.le_refl _) (by omega) (hw 1 (Nat.le_refl _) (by rw [h.kn]; omega))).1
  rw [q1] at hq
  have h5 : S n - T 1 = 0 := by simpa using hq
  have := hS n (by omega) (Nat.le_refl _)
  omega

/-- The running task sends. -/
theorem Inv.send (h : Inv n P K f T S M) {t i p : Nat} {r : List Nat} (ht : t = i + 1) (hi : i < n) (hs : (f i).sends = p :: r) :
    p = S t + 1 ∧ r = [] ∧ 1 ≤ p ∧ p ≤ K.m ∧ (K.ps p).wth = t ∧
    Inv n P (K.tick.send t p (nx n t)) (updN f i { f i with sends := r }) T (updN S t (S t + 1)) M ∧ phi n P (K.tick.send t p (nx n t)) T (updN S t (S t + 1)) M < phi n P K T S M := by
  have hn := h.n2
  obtain ⟨s1, s2, s3⟩ := h.sends i hi
  obtain ⟨w1, w2⟩ := h.wth i hi p (by rw [hs]; simp)
  have hsrc := h.src_le (t := i + 1) (by omega) (by omega)
  rw [← ht] at s1 s2 s3 hsrc w1
  have hd : src T M t - S t = 1 := by
    rcases Nat.eq_zero_or_pos (src T M t - S t) with e | e
    · rw [e, hs] at s1; simp at s1
    · omega
  rw [hd, hs] at s1
  simp only [List.range'_one, List.cons.injEq] at s1
  obtain ⟨rfl, rfl⟩ := s1
  have hmP := h.mP
  obtain ⟨q1, q2⟩ := h.q t (by omega) (by omega)
  obtain ⟨n1, n2⟩ := nx_in (n := n) (t := t) (by omega) (by omega)
  have hnt : nx n t ≠ t := by
    rcases Nat.lt_or_ge t n with h | h
    · rw [nx_lt h]; omega
    · obtain rfl : t = n := by omega
      rw [nx_n]; omega
  refine ⟨rfl, rfl, by omega, by rw [h.km]; omega, w1, ?_, ?_⟩
  · refine { kn := h.kn, n2 := hn, km := h.km, mP := hmP, took := fun j hj => ?_, made0 := ?_, made := fun j hj => ?_, q := fun s a1 a2 => ?_, sends := fun j hj => ?_, at_ := fun s a1 a2 q hq => ?_, wth := fun j hj q hq => ?_, wait := fun s a1 a2 hw => ?_ }
    · by_cases e : j = i
      · subst e; rw [updN_self]; exact h.took j hj
      · rw [updN_ne _ _ e]; exact h.took j hj
    · by_cases e : 0 = i
      · subst e; rw [updN_self]; exact h.made0
      · rw [updN_ne _ _ e]; exact h.made0
    · by_cases e : j = i
      · subst e; rw [updN_self]; exact h.made j hj
      · rw [updN_ne _ _ e]; exact h.made j hj
    · by_cases e : s = t
      · subst e
        simp only [KS.send, KS.tick, updN_self]
        rw [q1]
        refine ⟨?_, by omega⟩
        rw [show S s + 1 - T (nx n s) = S s - T (nx n s) + 1 by omega, List.range'_concat]
        congr 2
        omega
      · have hne : nx n s ≠ nx n t := fun e' => e (nx_inj a1 a2 (by omega) (by omega) e')
        simp only [KS.send, KS.tick, updN_ne _ _ hne, updN_ne _ _ e]
        exact h.q s a1 a2
    · by_cases e : j = i
      · subst e
        rw [updN_self, ← ht, updN_self]
        refine ⟨?_, by omega, by omega⟩
        rw [show src T M t - (S t + 1) = 0 by omega]
        rfl
      · rw [updN_ne _ _ e, updN_ne _ _ (by omega)]
        exact h.sends j hj
    · have hp : q ≠ S t + 1 ∨ s = nx n t := by
        by_cases e : s = nx n t
        · exact .inr e
        · refine .inl fun e' => ?_
          simp only [KS.send, KS.tick, updN_ne _ _ e] at hq
          have := h.at_ s a1 a2 q hq
          rw [e', w2] at this
          omega
      by_cases e' : q = S t + 1
      · subst e'
        simp only [KS.send, updN_self]
        rcases hp with hp | hp
        · exact absurd rfl hp
        · exact hp.symm
      · simp only [KS.send, KS.tick, updN_ne _ _ e']
        by_cases e : s = nx n t
        · subst e
          simp only [KS.send, KS.tick, updN_self, List.mem_append, List.mem_singleton] at hq
          rcases hq with hq | hq
          · exact h.at_ _ a1 a2 q hq
          · exact absurd hq e'
        · simp only [KS.send, KS.tick, updN_ne _ _ e] at hq
          exact h.at_ s a1 a2 q hq
    · by_cases e : j = i
      · subst e
        rw [updN_self] at hq
        simp at hq
      · rw [updN_ne _ _ e] at hq
        have hw := h.wth j hj q hq
        have hne : q ≠ S t + 1 := fun e' => by
          rw [e', w1] at hw
          omega
        simp only [KS.send, KS.tick, updN_ne _ _ hne]
        exact hw
    · have hsn : s ≠ nx n t := fun e => by
        subst e
        simp only [KS.send, updN_self] at hw
        cases hw
      simp only [KS.send, KS.tick, updN_ne _ _ hsn] at hw ⊢
      obtain ⟨b1, b2, b3⟩ := h.wait s a1 a2 hw
      refine ⟨b1, ?_, b3⟩
      by_cases e : s - 1 = i
      · rw [e, hs] at b2; cases b2
      · rw [updN_ne _ _ e]; exact b2
  · have A := sm_upd (fun t => P - S t) t (P - (S t + 1)) (n := n) (by omega) (by omega)
    have A' : sm n (fun x => P - updN S t (S t + 1) x) = sm n (updN (fun t => P - S t) t (P - (S t + 1))) := sm_same fun x _ _ => by
      by_cases e : x = t
      · subst e; simp
      · simp only [updN_ne _ _ e]
    have C := sm_upd (fun t => if (K.ts t).wt = true then 0 else 1) (nx n t) 1 (n := n) n1 n2
    have C' : sm n (fun x => if ((K.tick.send t (S t + 1) (nx n t)).ts x).wt = true then 0 else 1) = sm n (updN (fun t => if (K.ts t).wt = true then 0 else 1) (nx n t) 1) := sm_same fun x _ _ => by
      by_cases e : x = nx n t
      · subst e; simp [KS.send]
      · simp only [KS.send, KS.tick, updN_ne _ _ e]
    unfold phi
    rw [A', C']
    have : S t + 1 ≤ P := by omega
    omega

/-- The running task has nothing to do: it waits. -/
theorem Inv.rest (h : Inv n P K f T S M) {t i : Nat} (ht : t = i + 1) (hi : i < n) (hs : (f i).sends = []) (hq : (K.ts t).q = []) (hP : t = 1 → M = P) (hw : (K.ts t).wt = false) :
    Inv n P (K.tick.rest t) f T S M ∧ phi n P (K.tick.rest t) T S M < phi n P K T S M := by
  have hq' : ∀ s, ((K.tick.rest t).ts s).q = (K.ts s).q := fun s => by
    by_cases e : s = t
    · subst e; simp [KS.rest, KS.tick]
    · simp only [KS.rest, KS.tick, updN_ne _ _ e]
  refine ⟨{ kn := h.kn, n2 := h.n2, km := h.km, mP := h.mP, took := h.took, made0 := h.made0, made := h.made, q := fun s a1 a2 => by rw [hq']; exact h.q s a1 a2, sends := h.sends, at_ := fun s a1 a2 q hqq => by rw [hq'] at hqq; exact h.at_ s a1 a2 q hqq, wth := h.wth, wait := fun s a1 a2 hw' => ?_ }, ?_⟩
  · rw [hq']
    by_cases e : s = t
    · subst e
      exact ⟨hq, by rw [show s - 1 = i by omega]; exact hs, hP⟩
    · simp only [KS.rest, KS.tick, updN_ne _ _ e] at hw'
      exact h.wait s a1 a2 hw'
  · have C := sm_upd (fun t => if (K.ts t).wt = true then 0 else 1) t 0 (n := n) (by omega) (by omega)
    have C' : sm n (fun x => if ((K.tick.rest t).ts x).wt = true then 0 else 1) = sm n (updN (fun t => if (K.ts t).wt = true then 0 else 1) t 0) := sm_same fun x _ _ => by
      by_cases e : x = t
      · subst e; simp [KS.rest]
      · simp only [KS.rest, KS.tick, updN_ne _ _ e]
    unfold phi
    rw [C']
    simp only [hw] at C
    simp at C
    omega
/-- The first task makes a packet. -/
theorem Inv.make (h : Inv n P K f T S M) (hs : (f 0).sends = []) (hM : M < P) :
    Inv n P (K.tick.make 1) (updN f 0 ⟨[M + 1], (f 0).took, M + 1⟩) T S (M + 1) ∧ phi n P (K.tick.make 1) T S (M + 1) < phi n P K T S M := by
  have hn := h.n2
  obtain ⟨s1, s2, s3⟩ := h.sends 0 (by omega)
  simp only [Nat.zero_add] at s1 s2 s3
  have e1 : src T M 1 = M := if_pos rfl
  have e2 : src T (M + 1) 1 = M + 1 := if_pos rfl
  have e3 : ∀ {t}, t ≠ 1 → src T (M + 1) t = src T M t := fun ht => by unfold src; rw [if_neg ht, if_neg ht]
  rw [e1] at s1 s2 s3
  rw [hs] at s1
  have hS : S 1 = M := by
    have : M - S 1 = 0 := by simpa using s1.symm
    omega
  have hqle : ∀ s, 1 ≤ s → s ≤ n → ∀ q ∈ (K.ts s).q, q ≤ M := fun s a1 a2 q hq => by
    obtain ⟨t, t1, t2, rfl⟩ := nx_sur a1 a2
    obtain ⟨q1, q2⟩ := h.q t t1 t2
    rw [q1, List.mem_range'_1] at hq
    have := h.S_le t1 t2
    omega
  have hsle : ∀ j, j < n → ∀ q ∈ (f j).sends, q ≤ M := fun j hj q hq => by
    obtain ⟨b1, b2, b3⟩ := h.sends j hj
    rw [b1, List.mem_range'_1] at hq
    have := h.src_le (t := j + 1) (by omega) (by omega)
    omega
  refine ⟨{ kn := h.kn, n2 := hn, km := ?_, mP := hM, took := fun j hj => ?_, made0 := by rw [updN_self], made := fun j hj => ?_, q := h.q, sends := fun j hj => ?_, at_ := fun s a1 a2 q hq => ?_, wth := fun j hj q hq => ?_, wait := fun s a1 a2 hw => ?_ }, ?_⟩
  · show K.m + 1 = M + 1
    rw [h.km]
  · by_cases e : j = 0
    · subst e; rw [updN_self]; exact h.took 0 hj
    · rw [updN_ne _ _ e]; exact h.took j hj
  · rw [updN_ne _ _ (by omega)]; exact h.made j hj
  · by_cases e : j = 0
    · subst e
      rw [updN_self]
      simp only [Nat.zero_add]
      rw [e2, hS, show M + 1 - M = 1 by omega]
      exact ⟨rfl, by omega, by omega⟩
    · rw [updN_ne _ _ e, e3 (by omega)]
      exact h.sends j hj
  · have hne : q ≠ K.tick.m + 1 := by
      have := hqle s a1 a2 q hq
      have := h.km
      show q ≠ K.m + 1
      omega
    simp only [KS.make, updN_ne _ _ hne]
    exact h.at_ s a1 a2 q hq
  · by_cases e : j = 0
    · subst e
      rw [updN_self] at hq
      have hq' : q = K.tick.m + 1 := by
        have := h.km
        show q = K.m + 1
        rw [this]
        simpa using hq
      subst hq'
      simp only [KS.make, updN_self]
      exact ⟨by trivial, by trivial⟩
    · rw [updN_ne _ _ e] at hq
      have hne : q ≠ K.tick.m + 1 := by
        have := hsle j hj q hq
        have := h.km
        show q ≠ K.m + 1
        omega
      simp only [KS.make, updN_ne _ _ hne]
      exact h.wth j hj q hq
  · obtain ⟨b1, b2, b3⟩ := h.wait s a1 a2 hw
    have hs1 : s ≠ 1 := fun e => by have := b3 e; omega
    refine ⟨b1, ?_, fun e => absurd e hs1⟩
    rw [updN_ne _ _ (by omega)]
    exact b2
  · unfold phi
    show 2 * sm n (fun t => P - S t) + sm n (fun t => P - T t) + (P - (M + 1)) + sm n (fun t => if (K.ts t).wt = true then 0 else 1) < _
    omega

/-- The running task takes a packet. -/
theorem Inv.take (h : Inv n P K f T S M) {t i p : Nat} {r : List Nat} (ht : t = i + 1) (hi : i < n) (hs : (f i).sends = []) (hq : (K.ts t).q = p :: r) (hw : (K.ts t).wt = false) :
    p = T t + 1 ∧ 1 ≤ p ∧ (K.ps p).at_ = t ∧
    Inv n P (K.tick.pop t p r) (updN f i { f i with took := (f i).took ++ [p], sends := if t = 1 then [] else [p] }) (updN T t (T t + 1)) S M ∧ phi n P (K.tick.pop t p r) (updN T t (T t + 1)) S M < phi n P K T S M := by
  have hn := h.n2
  obtain ⟨u, u1, u2, hu⟩ := nx_sur (n := n) (t := t) (by omega) (by omega)
  obtain ⟨q1, q2⟩ := h.q u u1 u2
  rw [hu] at q1 q2
  rw [hq] at q1
  have hd : S u - T t = (S u - T t - 1) + 1 := by
    rcases Nat.eq_zero_or_pos (S u - T t) with e | e
    · rw [e] at q1; simp at q1
    · omega
  rw [hd, List.range'_succ] at q1
  simp only [List.cons.injEq] at q1
  obtain ⟨rfl, hr⟩ := q1
  have hat := h.at_ t (by omega) (by omega) (T t + 1) (by rw [hq]; simp)
  have hSu := h.S_le u1 u2
  have hmP := h.mP
  obtain ⟨s1, s2, s3⟩ := h.sends i hi
  rw [← ht] at s1 s2 s3
  rw [hs] at s1
  have hsrc : src T M t = S t := by
    have : src T M t - S t = 0 := by simpa using s1.symm
    omega
  have e3 : ∀ {s}, s ≠ t → src (updN T t (T t + 1)) M s = src T M s := fun hne => by
    unfold src
    split
    · rfl
    · rw [updN_ne _ _ hne]
  refine ⟨rfl, by omega, hat, ?_, ?_⟩
  · refine { kn := h.kn, n2 := hn, km := h.km, mP := hmP, took := fun j hj => ?_, made0 := ?_, made := fun j hj => ?_, q := fun s a1 a2 => ?_, sends := fun j hj => ?_, at_ := fun s a1 a2 q hqq => ?_, wth := fun j hj q hqq => ?_, wait := fun s a1 a2 hw' => ?_ }
    · by_cases e : j = i
      · subst e
        rw [updN_self, ← ht, updN_self]
        show (f j).took ++ [T t + 1] = _
        rw [h.took j hj, ← ht, List.range'_concat]
        congr 2
        omega
      · rw [updN_ne _ _ e, updN_ne _ _ (by omega)]; exact h.took j hj
    · by_cases e : 0 = i
      · subst e; rw [updN_self]; exact h.made0
      · rw [updN_ne _ _ e]; exact h.made0
    · by_cases e : j = i
      · subst e; rw [updN_self]; exact h.made j hj
      · rw [updN_ne _ _ e]; exact h.made j hj
    · by_cases e : nx n s = t
      · have hsu : s = u := nx_inj a1 a2 u1 u2 (e.trans hu.symm)
        subst hsu
        rw [e]
        simp only [KS.pop, KS.tick, updN_self]
        refine ⟨?_, by omega⟩
        rw [hr]
        congr 1
      · simp only [KS.pop, KS.tick, updN_ne _ _ e]
        exact h.q s a1 a2
    · by_cases e : j = i
      · subst e
        rw [updN_self, ← ht]
        by_cases e1 : t = 1
        · have : src (updN T t (T t + 1)) M t = src T M t := by unfold src; rw [if_pos e1, if_pos e1]
          rw [this, hsrc, if_pos e1]
          refine ⟨by simp, by omega, by omega⟩
        · have : src (updN T t (T t + 1)) M t = T t + 1 := by unfold src; rw [if_neg e1, updN_self]
          have e4 : src T M t = T t := by unfold src; rw [if_neg e1]
          rw [this, if_neg e1]
          have hST : S t = T t := by omega
          refine ⟨?_, by omega, by omega⟩
          rw [hST, show T t + 1 - T t = 1 by omega]
          rfl
      · rw [updN_ne _ _ e, e3 (by omega)]
        exact h.sends j hj
    · have hne : q ≠ T t + 1 := by
        intro e'
        subst e'
        by_cases e : s = t
        · subst e
          simp only [KS.pop, KS.tick, updN_self] at hqq
          rw [hr, List.mem_range'_1] at hqq
          omega
        · simp only [KS.pop, KS.tick, updN_ne _ _ e] at hqq
          have := h.at_ s a1 a2 _ hqq
          omega
      simp only [KS.pop, KS.tick, updN_ne _ _ hne]
      by_cases e : s = t
      · subst e
        simp only [KS.pop, KS.tick, updN_self] at hqq
        exact h.at_ s a1 a2 q (by rw [hq]; exact List.mem_cons_of_mem _ hqq)
      · simp only [KS.pop, KS.tick, updN_ne _ _ e] at hqq
        exact h.at_ s a1 a2 q hqq
    · by_cases e : j = i
      · subst e
        rw [updN_self] at hqq
        by_cases e1 : t = 1
        · rw [if_pos e1] at hqq
          cases hqq
        · rw [if_neg e1] at hqq
          simp only [List.mem_singleton] at hqq
          subst hqq
          simp only [KS.pop, updN_self]
          exact ⟨ht, trivial⟩
      · rw [updN_ne _ _ e] at hqq
        have hw := h.wth j hj q hqq
        have hne : q ≠ T t + 1 := fun e' => by
          rw [e', hat] at hw
          omega
        simp only [KS.pop, KS.tick, updN_ne _ _ hne]
        exact hw
    · have hst : s ≠ t := fun e => by
        subst e
        simp only [KS.pop, KS.tick, updN_self] at hw'
        rw [hw] at hw'
        cases hw'
      simp only [KS.pop, KS.tick, updN_ne _ _ hst] at hw' ⊢
      rw [updN_ne _ _ (by omega)]
      exact h.wait s a1 a2 hw'
  · have B := sm_upd (fun t => P - T t) t (P - (T t + 1)) (n := n) (by omega) (by omega)
    have B' : sm n (fun x => P - updN T t (T t + 1) x) = sm n (updN (fun t => P - T t) t (P - (T t + 1))) := sm_same fun x _ _ => by
      by_cases e : x = t
      · subst e; simp
      · simp only [updN_ne _ _ e]
    have C' : sm n (fun x => if ((K.tick.pop t (T t + 1) r).ts x).wt = true then 0 else 1) = sm n (fun t => if (K.ts t).wt = true then 0 else 1) := sm_same fun x _ _ => by
      by_cases e : x = t
      · subst e; simp [KS.pop, KS.tick]
      · simp only [KS.pop, KS.tick, updN_ne _ _ e]
    unfold phi
    rw [B', C']
    omega

theorem phi_start (n P : Nat) (K : KS) (T S : Nat → Nat) (M : Nat) : phi n P K T S M ≤ 3 * (n * P) + P + n := by
  have a := sm_le (n := n) (f := fun t => P - S t) (b := P) fun _ _ _ => Nat.sub_le _ _
  have b := sm_le (n := n) (f := fun t => P - T t) (b := P) fun _ _ _ => Nat.sub_le _ _
  have c := sm_le (n := n) (f := fun t => if (K.ts t).wt = true then 0 else 1) (b := 1) fun i _ _ => by split <;> omega
  unfold phi
  omega
end
end Go.Rnd
