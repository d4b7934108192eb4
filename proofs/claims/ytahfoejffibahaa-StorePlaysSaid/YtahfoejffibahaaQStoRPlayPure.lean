/-
  The reference's play beside the program's: the plain part.
-/
import Derived.Test.YtahfoejffibahaaQStoTopPure
import Derived.Test.YtahfoejffibahaaQStoPlay
set_option linter.unusedVariables false

namespace Go.Sto

theorem mem_mid {α : Type} {x y : α} {X Y : List α} : x ∈ X ++ y :: Y ↔ x = y ∨ x ∈ X ++ Y := by
  constructor
  · intro h
    rcases List.mem_append.1 h with q | q
    · exact .inr (List.mem_append_left _ q)
    · rcases List.mem_cons.1 q with q | q
      · exact .inl q
      · exact .inr (List.mem_append_right _ q)
  · rintro (rfl | h)
    · simp
    · rcases List.mem_append.1 h with q | q <;> simp [q]

theorem grow_others {n : Nat} {S : St} (h : Ok n S) {a : Int} {ws : List Int} (hx : (a, ws) ∈ U 0 S) (k : Int) {T : St} {c : Int} (hg : grow S a k = (T, c, 0)) :
    (∀ x ∈ U 0 S, x.1 ≠ a → x ∈ U 0 T) ∧ (c = a ∨ ∀ x ∈ U 0 S, x.1 ≠ c) := by
  obtain ⟨A, x, B, rfl, hu, e1, e2, hf, hU⟩ := h.split hx
  simp only at e1 e2 hf
  subst e2
  have hk : ¬ (k < 0 ∨ 32000 < k) := fun hk => by rw [grow_range hf hk] at hg; cases hg
  have h0 : 0 ≤ k := by omega
  have h1 : k ≤ 32000 := by omega
  rcases tight_or x B (need k) with hb | ⟨SB, hb⟩
  · rcases get_U h k with ⟨e, he, hne⟩ | ⟨T2, tt, X, Y, hgt, hU1, hU2, hT, hto, -, -⟩
    · rw [grow_fail hf h0 h1 hb he hne] at hg
      cases hg; exact absurd rfl hne
    · have hmem : (tt, zeros (need k - 1)) ∈ U 0 T2 := by rw [hU2]; simp
      obtain ⟨A1, y, B1, rfl, hy, f1, f2, hft, hUT⟩ := hT.split hmem
      simp only at f1 f2 hft
      have hgm := grow_moves hf h0 h1 hb hgt hft
      have hset : setWords (A1 ++ y :: B1) A1.length (resize x.ws (need k - 1)) = A1 ++ ⟨y.size, y.used, resize x.ws (need k - 1)⟩ :: B1 := by unfold setWords; rw [drop_left, take_left]
      have hok2 : Ok n (A1 ++ ⟨y.size, y.used, resize x.ws (need k - 1)⟩ :: B1) := set_ok hT _ (by rw [← f2]; simp [resize, zeros]) (wf_resize (h.good x (by simp)).wf _)
      rw [hset] at hgm
      have hU3 : U 0 (A1 ++ ⟨y.size, y.used, resize x.ws (need k - 1)⟩ :: B1) = U 0 A1 ++ (tt, resize x.ws (need k - 1)) :: U (sz A1 + y.size) B1 := by
        rw [U_append]; simp [U, hy, f1]
      have hnd := hT.nodup
      rw [hU2] at hnd
      have hnd2 := (List.perm_middle.map Prod.fst).nodup_iff.1 hnd
      rw [List.map_cons, List.nodup_cons] at hnd2
      have hfresh : ∀ z ∈ U 0 (A ++ x :: B), z.1 ≠ tt := fun z hz e => hnd2.1 (by rw [← e]; exact List.mem_map.2 ⟨z, by rw [← hU1]; exact hz, rfl⟩)
      have hin : ∀ z ∈ U 0 (A ++ x :: B), z ∈ U 0 (A1 ++ ⟨y.size, y.used, resize x.ws (need k - 1)⟩ :: B1) := fun z hz => by
        have h5 : z ∈ U 0 (A1 ++ y :: B1) := by rw [hU2]; exact mem_mid.2 (.inr (by rw [← hU1]; exact hz))
        rw [hUT] at h5
        rw [hU3]
        rcases mem_mid.1 h5 with q | q
        · exact absurd (by rw [q]) (hfresh z hz)
        · exact mem_mid.2 (.inr q)
      obtain ⟨X2, Y2, hXY⟩ := List.append_of_mem (hin _ hx)
      obtain ⟨S', hp, hU', hok'⟩ := put_U hok2 hXY
      simp only at hp
      rw [hp] at hgm
      rw [hgm] at hg
      cases hg
      refine ⟨fun z hz hza => ?_, .inr hfresh⟩
      have h6 := hin z hz
      rw [hXY] at h6
      rw [hU']
      rcases mem_mid.1 h6 with q | q
      · exact absurd (by rw [q]) hza
      · exact q
  · have hA : Norm A := (norm_append.1 h.norm).1
    have hgs := grow_stays hf hA h0 h1 hb
    rw [hgs] at hg
    cases hg
    refine ⟨fun z hz hza => ?_, .inl rfl⟩
    have hSB : U (sz A + need k) (fuse SB) = U (sz A + x.size) B := by
      rw [U_fuse]
      rcases hb with ⟨h2, rfl⟩ | ⟨h2, y, C, rfl, h3, h4, rfl⟩
      · rw [U_rest _ _ _ _ h2]; congr 1; omega
      · rw [U_rest _ _ _ _ h4]
        simp only [U, h3, Bool.false_eq_true, if_false]
        congr 1; omega
    rw [hU] at hz
    rw [U_append]
    simp only [U, if_true, Nat.zero_add]
    rw [hSB]
    rcases mem_mid.1 hz with q | q
    · exact absurd (by rw [q]) hza
    · exact mem_mid.2 (.inr q)

theorem U_find {S : St} {a : Int} {i : Nat} (h : find a S = some i) : ∃ ws, (a, ws) ∈ U 0 S := by
  obtain ⟨A, x, B, rfl, -, hx, -⟩ := hit_some h
  unfold isAt at hx
  simp at hx
  refine ⟨x.ws, ?_⟩
  rw [U_append]
  simp only [U, hx.1, if_true, Nat.zero_add]
  rw [← hx.2]
  simp
theorem find_U {n : Nat} {S : St} (h : Ok n S) {a : Int} {ws : List Int} (hx : (a, ws) ∈ U 0 S) : ∃ i, find a S = some i := by
  obtain ⟨A, x, B, rfl, hu, e1, e2, hf, hU⟩ := h.split hx
  exact ⟨_, hf⟩

/-- The last address that is one of a block in use: its index. -/
def lastIn (S : St) (got : List Int) : Nat → Option Nat
  | 0 => none
  | i + 1 => if (find (got.getD i 0) S).isSome then some i else lastIn S got i

/-- The reference's player. -/
structure RP where
  S : St
  gave : List Int
  works : List Bool
  got : List Int

def rputM (q : RP) (k : Int) : RP × Int :=
  if k < 0 ∨ q.gave.length ≤ k ∨ q.works.getD k.toNat false = false then (q, 0) else
  let a := q.gave.getD k.toNat 0
  let r := put q.S a
  ({ q with S := r.1, got := if r.2 = 0 then q.got.map (fun x => if x = a then 0 else x) else q.got }, -r.2)
def rgrownM (q : RP) (k : Int) : RP × Int × Bool :=
  match lastIn q.S q.got q.got.length with
  | none => (q, 0, false)
  | some i =>
    let r := grow q.S (q.got.getD i 0) k
    if r.2.2 ≠ 0 then (q, -r.2.2, false) else ({ q with S := r.1, got := q.got.set i r.2.1 }, r.2.1, true)
def RP.step (q : RP) (c : Int × Int) : RP :=
  if c.1 = 0 then
    let r := get q.S c.2
    if r.2.2 = 0 then { S := r.1, gave := q.gave ++ [r.2.1], works := q.works ++ [true], got := q.got ++ [r.2.1] }
    else { S := r.1, gave := q.gave ++ [-r.2.2], works := q.works ++ [false], got := q.got }
  else if c.1 = 1 then
    let r := rputM q c.2
    { r.1 with gave := r.1.gave ++ [r.2], works := r.1.works ++ [false] }
  else
    let r := rgrownM q c.2
    { r.1 with gave := r.1.gave ++ [r.2.1], works := r.1.works ++ [r.2.2] }

structure Rel (n : Nat) (p : PS) (q : RP) : Prop where
  S : p.S = q.S
  gave : p.gave = q.gave
  ok : Ok n p.S
  works : q.works = p.took.map fun x => decide (x ≠ 0)
  len : p.took.length = p.gave.length
  took : ∀ (i : Nat) (a : Int), p.took[i]? = some a → a ≠ 0 → p.gave[i]? = some a
  live : p.live = q.got.filter fun x => x != 0
  use : ∀ a ∈ p.live, ∃ ws, (a, ws) ∈ U 0 p.S
  nd : p.live.Nodup

theorem filter_map0 (l : List Int) (a : Int) (ha : a ≠ 0) : (l.map fun x => if x = a then 0 else x).filter (fun x => x != 0) = (l.filter fun x => x != 0).filter fun x => x != a := by
  induction l with
  | nil => rfl
  | cons x l ih =>
    by_cases h1 : x = a
    · subst h1
      simp only [List.map_cons, if_true, List.filter_cons]
      simp [ha, ih]
    · by_cases h2 : x = 0
      · subst h2
        simp only [List.map_cons, if_neg h1, List.filter_cons]
        simp [ih]
      · simp only [List.map_cons, if_neg h1, List.filter_cons]
        simp [h1, h2, ih]

theorem find_zero {S : St} {n : Nat} (h : Ok n S) : find 0 S = none := by
  cases hf : find 0 S with
  | none => rfl
  | some i =>
    obtain ⟨ws, hx⟩ := U_find hf
    have := (h.pos hx).1
    simp at this

/-- Where nothing behind index i is in use, and the entry i is. -/
theorem lastIn_spec {n : Nat} {S : St} (h : Ok n S) : ∀ (got : List Int) (m : Nat), m ≤ got.length → (∀ a ∈ got.filter (fun x => x != 0), ∃ ws, (a, ws) ∈ U 0 S) →
    (lastIn S got m = none ∧ (got.take m).filter (fun x => x != 0) = []) ∨
    ∃ i b, lastIn S got m = some i ∧ got[i]? = some b ∧ b ≠ 0 ∧ i < m ∧ (got.take m).filter (fun x => x != 0) = (got.take i).filter (fun x => x != 0) ++ [b]
  | got, 0, _, _ => .inl ⟨rfl, by simp⟩
  | got, m + 1, hm, hu => by
    obtain ⟨b, hb⟩ : ∃ b, got[m]? = some b := ⟨_, List.getElem?_eq_getElem (by omega)⟩
    have hbd : got.getD m 0 = b := by simp [List.getD, hb]
    have ht : got.take (m + 1) = got.take m ++ [b] := by rw [List.take_add_one, hb]; rfl
    unfold lastIn
    rw [hbd, ht, List.filter_append]
    by_cases h0 : b = 0
    · subst h0
      rw [find_zero h]
      simp only [Option.isSome_none, Bool.false_eq_true, if_false]
      have e : [(0 : Int)].filter (fun x => x != 0) = [] := rfl
      rw [e, List.append_nil]
      rcases lastIn_spec h got m (by omega) hu with ⟨h1, h2⟩ | ⟨i, c, h1, h2, h3, h4, h5⟩
      · exact .inl ⟨h1, h2⟩
      · exact .inr ⟨i, c, h1, h2, h3, by omega, h5⟩
    · obtain ⟨ws, hx⟩ := hu b (List.mem_filter.2 ⟨List.mem_of_getElem? hb, by simp [h0]⟩)
      obtain ⟨i, hi⟩ := find_U h hx
      rw [hi]
      simp only [Option.isSome_some, if_true]
      exact .inr ⟨m, b, rfl, hb, h0, by omega, by simp [h0]⟩

section
variable {n : Nat} {p : PS} {q : RP}
/-- A call that gives no address, of which the store is another (or the same). -/
theorem Rel.more {T : St} {live got : List Int} {v : Int} (h : Rel n p q) (hv : v ≤ 0) (ok : Ok n T) (hl : live = got.filter fun x => x != 0) (hu : ∀ a ∈ live, ∃ ws, (a, ws) ∈ U 0 T) (hn : live.Nodup) :
    Rel n ⟨T, p.gave ++ [v], p.took ++ [max 0 v], live⟩ ⟨T, q.gave ++ [v], q.works ++ [false], got⟩ := by
  have hm : max 0 v = 0 := by omega
  refine ⟨rfl, by rw [h.gave], ok, by rw [h.works, hm]; simp, by simp [h.len], fun i a hi ha => ?_, hl, hu, hn⟩
  simp only at hi ⊢
  rcases Nat.lt_or_ge i p.took.length with q | q
  · rw [List.getElem?_append_left q] at hi
    rw [List.getElem?_append_left (by have := h.len; omega)]
    exact h.took i a hi ha
  · rw [List.getElem?_append_right q] at hi
    cases hh : i - p.took.length with
    | zero => rw [hh] at hi; simp at hi; omega
    | succ k => rw [hh] at hi; simp at hi
/-- A call that gives an address. -/
theorem Rel.gives {T : St} {live got : List Int} {v : Int} (h : Rel n p q) (hv : 0 < v) (ok : Ok n T) (hl : live = got.filter fun x => x != 0) (hu : ∀ a ∈ live, ∃ ws, (a, ws) ∈ U 0 T) (hn : live.Nodup) :
    Rel n ⟨T, p.gave ++ [v], p.took ++ [max 0 v], live⟩ ⟨T, q.gave ++ [v], q.works ++ [true], got⟩ := by
  have hm : max 0 v = v := by omega
  refine ⟨rfl, by rw [h.gave], ok, by rw [h.works, hm]; simp; omega, by simp [h.len], fun i a hi ha => ?_, hl, hu, hn⟩
  simp only at hi ⊢
  rcases Nat.lt_or_ge i p.took.length with q | q
  · rw [List.getElem?_append_left q] at hi
    rw [List.getElem?_append_left (by have := h.len; omega)]
    exact h.took i a hi ha
  · have e := h.len
    rw [List.getElem?_append_right q, hm] at hi
    rw [List.getElem?_append_right (by omega), ← e]
    exact hi

theorem grow_errno {n : Nat} {S : St} (h : Ok n S) (a k : Int) : 0 ≤ (grow S a k).2.2 := by
  cases hf : find a S with
  | none => rw [grow_bad hf]; show (0 : Int) ≤ 180; omega
  | some i =>
    obtain ⟨ws, hx⟩ := U_find hf
    rcases grow_U h hx k with ⟨e, he, hne⟩ | ⟨T, c, hg, -⟩
    · rw [he]
      by_cases hk : k < 0 ∨ 32000 < k
      · rw [grow_range hf hk] at he
        have e0 : (1 : Int) = e := congrArg (fun t => t.2.2) he
        show (0 : Int) ≤ e
        omega
      · obtain ⟨A, x, B, rfl, hu, e1, e2, hff, hU⟩ := h.split hx
        simp only at e1 e2 hff
        subst e2
        rcases tight_or x B (need k) with hb | ⟨SB, hb⟩
        · rcases get_U h k with ⟨e', he', hne'⟩ | ⟨T2, tt, X, Y, hgt, hU1, hU2, hT, hto, -, -⟩
          · rw [grow_fail hff (by omega) (by omega) hb he' hne'] at he
            cases he
            have := (get_errno h k).1
            rw [he'] at this
            exact this
          · have hmem : (tt, zeros (need k - 1)) ∈ U 0 T2 := by rw [hU2]; simp
            obtain ⟨j, hj⟩ := find_U hT hmem
            rw [grow_moves hff (by omega) (by omega) hb hgt hj] at he
            have e0 : (0 : Int) = e := congrArg (fun t => t.2.2) he
            exact absurd e0.symm hne
        · rw [grow_stays hff (norm_append.1 h.norm).1 (by omega) (by omega) hb] at he
          have e0 : (0 : Int) = e := congrArg (fun t => t.2.2) he
          exact absurd e0.symm hne
    · rw [hg]; exact Int.le_refl 0

theorem rel_get (h : Rel n p q) (k : Int) : Rel n (p.step (0, k)) (q.step (0, k)) := by
  have e1 : p.step (0, k) = ⟨(get p.S k).1, p.gave ++ [toldM (get p.S k).2.1 (get p.S k).2.2], p.took ++ [max 0 (toldM (get p.S k).2.1 (get p.S k).2.2)], if (get p.S k).2.2 = 0 then p.live ++ [(get p.S k).2.1] else p.live⟩ := rfl
  have e2 : q.step (0, k) = if (get q.S k).2.2 = 0 then ⟨(get q.S k).1, q.gave ++ [(get q.S k).2.1], q.works ++ [true], q.got ++ [(get q.S k).2.1]⟩ else ⟨(get q.S k).1, q.gave ++ [-(get q.S k).2.2], q.works ++ [false], q.got⟩ := rfl
  rw [e1, e2, ← h.S]
  rcases get_U h.ok k with ⟨e, he, hne⟩ | ⟨S', a, X, Y, hg, hU1, hU2, hok, ha, -, -⟩
  · have h0 := (get_errno h.ok k).1
    rw [he] at h0 ⊢
    simp only at h0 ⊢
    rw [if_neg hne, if_neg hne]
    unfold toldM
    rw [if_neg hne]
    exact h.more (by omega) h.ok h.live h.use h.nd
  · rw [hg]
    simp only [if_true]
    unfold toldM
    rw [if_pos rfl]
    refine h.gives ha hok ?_ (fun b hb => ?_) ?_
    · rw [List.filter_append, h.live]; simp [List.filter_cons]; omega
    · rcases List.mem_append.1 hb with hb | hb
      · obtain ⟨ws, hx⟩ := h.use b hb
        rw [hU1] at hx
        exact ⟨ws, by rw [hU2]; exact mem_mid.2 (.inr hx)⟩
      · simp only [List.mem_singleton] at hb
        subst hb
        exact ⟨_, by rw [hU2]; exact mem_mid.2 (.inl rfl)⟩
    · have hnd := hok.nodup
      rw [hU2] at hnd
      have hnd2 := (List.perm_middle.map Prod.fst).nodup_iff.1 hnd
      rw [List.map_cons, List.nodup_cons] at hnd2
      refine List.nodup_append.2 ⟨h.nd, by simp, fun b hb c hc e => ?_⟩
      simp only [List.mem_singleton] at hc
      subst hc
      obtain ⟨ws, hx⟩ := h.use b hb
      rw [hU1] at hx
      exact hnd2.1 (List.mem_map.2 ⟨_, hx, e⟩)

theorem rel_put (h : Rel n p q) (k : Int) : Rel n (p.step (1, k)) (q.step (1, k)) := by
  have hlen := h.len
  have hg := h.gave
  have hw : q.works.getD k.toNat false = decide (p.took.getD k.toNat 0 ≠ 0) := by
    rw [h.works, List.getD_eq_getElem?_getD, List.getD_eq_getElem?_getD, List.getElem?_map]
    cases p.took[k.toNat]? <;> simp
  by_cases hk : k < 0 ∨ p.took.length ≤ k ∨ p.took.getD k.toNat 0 = 0
  · have e1 : p.step (1, k) = ⟨p.S, p.gave ++ [0], p.took ++ [max 0 0], p.live⟩ := by
      unfold PS.step doM
      simp only [Int.one_ne_zero, if_false, if_true]
      rw [if_pos hk]
    have hk2 : k < 0 ∨ q.gave.length ≤ k ∨ q.works.getD k.toNat false = false := by
      rw [hw, ← hg, ← hlen]
      rcases hk with a | a | a
      · exact .inl a
      · exact .inr (.inl a)
      · exact .inr (.inr (by rw [a]; rfl))
    have e2 : q.step (1, k) = ⟨p.S, q.gave ++ [0], q.works ++ [false], q.got⟩ := by
      unfold RP.step rputM
      simp only [Int.one_ne_zero, if_false, if_true]
      rw [if_pos hk2, h.S]
    rw [e1, e2]
    exact h.more (Int.le_refl 0) h.ok h.live h.use h.nd
  · have hk2 : ¬ (k < 0 ∨ q.gave.length ≤ k ∨ q.works.getD k.toNat false = false) := by
      rw [hw, ← hg, ← hlen]
      intro c
      rcases c with a | a | a
      · exact hk (.inl a)
      · exact hk (.inr (.inl a))
      · simp at a; exact hk (.inr (.inr (by simpa using a)))
    obtain ⟨a, ha⟩ : ∃ a, p.took.getD k.toNat 0 = a := ⟨_, rfl⟩
    have ha0 : a ≠ 0 := fun e => hk (.inr (.inr (by rw [ha, e])))
    have hki : p.took[k.toNat]? = some a := by
      have h1 : k.toNat < p.took.length := by omega
      rw [List.getElem?_eq_getElem h1]
      simp only [List.getD, List.getElem?_eq_getElem h1, Option.getD_some] at ha
      rw [ha]
    have hga : q.gave.getD k.toNat 0 = a := by
      have := h.took _ _ hki ha0
      rw [hg] at this
      simp [List.getD, this]
    have e1 : p.step (1, k) = ⟨(put p.S a).1, p.gave ++ [toldM 0 (put p.S a).2], p.took ++ [max 0 (toldM 0 (put p.S a).2)], if (put p.S a).2 = 0 then p.live.filter (fun x => x != a) else p.live⟩ := by
      unfold PS.step doM
      simp only [Int.one_ne_zero, if_false, if_true]
      rw [if_neg hk, ha]
    have e2 : q.step (1, k) = ⟨(put p.S a).1, q.gave ++ [-(put p.S a).2], q.works ++ [false], if (put p.S a).2 = 0 then q.got.map (fun x => if x = a then 0 else x) else q.got⟩ := by
      unfold RP.step rputM
      simp only [Int.one_ne_zero, if_false, if_true]
      rw [if_neg hk2, hga, ← h.S]
    rw [e1, e2]
    cases hf : find a p.S with
    | none =>
      have hp : put p.S a = (p.S, 180) := by unfold put; rw [hf]
      rw [hp]
      simp only
      unfold toldM
      rw [if_neg (by decide), if_neg (by decide), if_neg (by decide)]
      exact h.more (by decide) h.ok h.live h.use h.nd
    | some i =>
      obtain ⟨ws, hx⟩ := U_find hf
      obtain ⟨X, Y, hXY⟩ := List.append_of_mem hx
      obtain ⟨S', hp, hU', hok'⟩ := put_U h.ok hXY
      simp only at hp
      rw [hp]
      simp only [if_true]
      unfold toldM
      rw [if_pos rfl]
      refine h.more (Int.le_refl 0) hok' ?_ (fun b hb => ?_) (h.nd.filter _)
      · rw [filter_map0 _ _ ha0, h.live]
      · have hb2 := List.mem_filter.1 hb
        obtain ⟨ws', hx'⟩ := h.use b hb2.1
        rw [hXY] at hx'
        refine ⟨ws', ?_⟩
        rw [hU']
        rcases mem_mid.1 hx' with e | e
        · have : b = a := congrArg Prod.fst e
          simp [this] at hb2
        · exact e

theorem filter_set {got : List Int} {i : Nat} {b c : Int} (hb : got[i]? = some b) (hc : c ≠ 0) (hz : (got.drop (i + 1)).filter (fun x => x != 0) = []) : (got.set i c).filter (fun x => x != 0) = (got.take i).filter (fun x => x != 0) ++ [c] := by
  have h1 := List.getElem?_eq_some_iff.1 hb
  have e : got.set i c = got.take i ++ c :: got.drop (i + 1) := by
    rw [List.set_eq_take_append_cons_drop, if_pos h1.1]
  rw [e, List.filter_append, List.filter_cons, hz]
  simp [hc]

theorem rel_grow (h : Rel n p q) (d k : Int) (hd0 : d ≠ 0) (hd1 : d ≠ 1) : Rel n (p.step (d, k)) (q.step (d, k)) := by
  have hus : ∀ a ∈ q.got.filter (fun x => x != 0), ∃ ws, (a, ws) ∈ U 0 p.S := by rw [← h.live]; exact h.use
  have hsp := lastIn_spec h.ok q.got q.got.length (Nat.le_refl _) hus
  rw [List.take_length, ← h.live] at hsp
  rcases hsp with ⟨h1, h2⟩ | ⟨i, b, h1, h2, h3, h4, h5⟩
  · have e1 : p.step (d, k) = ⟨p.S, p.gave ++ [0], p.took ++ [max 0 0], p.live⟩ := by
      unfold PS.step doM
      simp only [hd0, hd1, if_false, h2, List.getLast?_nil]
    have e2 : q.step (d, k) = ⟨p.S, q.gave ++ [0], q.works ++ [false], q.got⟩ := by
      unfold RP.step rgrownM
      simp only [hd0, hd1, if_false]
      rw [← h.S, h1]
      simp only [h.S]
    rw [e1, e2]
    exact h.more (Int.le_refl 0) h.ok h.live h.use h.nd
  · have hl : p.live.getLast? = some b := by rw [h5]; simp
    have hd : p.live.dropLast = (q.got.take i).filter (fun x => x != 0) := by rw [h5]; simp
    have hgb : q.got.getD i 0 = b := by simp [List.getD, h2]
    have e1 : p.step (d, k) = ⟨(grow p.S b k).1, p.gave ++ [toldM (grow p.S b k).2.1 (grow p.S b k).2.2], p.took ++ [max 0 (toldM (grow p.S b k).2.1 (grow p.S b k).2.2)], if (grow p.S b k).2.2 = 0 then p.live.dropLast ++ [(grow p.S b k).2.1] else p.live⟩ := by
      unfold PS.step doM
      simp only [hd0, hd1, if_false, hl]
    obtain ⟨ws, hx⟩ := h.use b (by rw [h5]; simp)
    have hne0 := grow_errno h.ok b k
    rcases grow_U h.ok hx k with ⟨e, he, hne⟩ | ⟨T, c, hg, hc, hok, -, -⟩
    · have e2 : q.step (d, k) = ⟨p.S, q.gave ++ [-e], q.works ++ [false], q.got⟩ := by
        unfold RP.step rgrownM
        simp only [hd0, hd1, if_false]
        rw [← h.S, h1]
        simp only [hgb]
        rw [he]
        simp only
        rw [if_pos hne]
        simp only [h.S]
      rw [he] at hne0
      rw [e1, e2, he]
      simp only
      unfold toldM
      rw [if_neg hne, if_neg hne]
      have h0 : 0 ≤ e := hne0
      exact h.more (by omega) h.ok h.live h.use h.nd
    · have e2 : q.step (d, k) = ⟨T, q.gave ++ [c], q.works ++ [true], q.got.set i c⟩ := by
        unfold RP.step rgrownM
        simp only [hd0, hd1, if_false]
        rw [← h.S, h1]
        simp only [hgb]
        rw [hg]
        simp
      have hcp := (hok.pos hc).1
      simp only at hcp
      obtain ⟨ho1, ho2⟩ := grow_others h.ok hx k hg
      rw [e1, e2, hg]
      simp only [if_true]
      unfold toldM
      rw [if_pos rfl]
      have hnd := h.nd
      rw [h5] at hnd
      have hnd2 := List.nodup_append.1 hnd
      have hz : (q.got.drop (i + 1)).filter (fun x => x != 0) = [] := by
        have e3 : q.got = q.got.take i ++ b :: q.got.drop (i + 1) := by
          have h6 := List.getElem?_eq_some_iff.1 h2
          have h7 := List.drop_eq_getElem_cons h6.1
          rw [h6.2] at h7
          rw [← h7, List.take_append_drop]
        have e4 := h.live
        rw [h5] at e4
        have e5 : q.got.filter (fun x => x != 0) = (q.got.take i).filter (fun x => x != 0) ++ (b :: (q.got.drop (i + 1)).filter (fun x => x != 0)) := by
          conv => lhs; rw [e3]
          rw [List.filter_append, List.filter_cons]; simp [h3]
        rw [e5] at e4
        have e6 := List.append_cancel_left e4
        simp at e6
        simpa using e6
      refine h.gives hcp hok ?_ (fun x hx' => ?_) ?_
      · rw [hd, filter_set h2 (by omega) hz]
      · rcases List.mem_append.1 hx' with hx' | hx'
        · rw [hd] at hx'
          have hxb : x ≠ b := fun e => hnd2.2.2 x hx' b (by simp) e
          obtain ⟨ws', hx2⟩ := h.use x (by rw [h5]; exact List.mem_append_left _ hx')
          exact ⟨ws', ho1 _ hx2 hxb⟩
        · simp only [List.mem_singleton] at hx'
          subst hx'
          exact ⟨_, hc⟩
      · rw [hd]
        refine List.nodup_append.2 ⟨hnd2.1, by simp, fun x hx' y hy e => ?_⟩
        simp only [List.mem_singleton] at hy
        subst hy
        subst e
        rcases ho2 with e | e
        · exact hnd2.2.2 x hx' b (by simp) e
        · obtain ⟨ws', hx2⟩ := h.use x (by rw [h5]; exact List.mem_append_left _ hx')
          exact e _ hx2 rfl

theorem rel_step (h : Rel n p q) (c : Int × Int) : Rel n (p.step c) (q.step c) := by
  obtain ⟨d, k⟩ := c
  by_cases h0 : d = 0
  · subst h0; exact rel_get h k
  · by_cases h1 : d = 1
    · subst h1; exact rel_put h k
    · exact rel_grow h d k h0 h1
theorem rel_fold : ∀ (l : List (Int × Int)) {p : PS} {q : RP}, Rel n p q → Rel n (l.foldl PS.step p) (l.foldl RP.step q)
  | [], _, _, h => h
  | c :: l, _, _, h => rel_fold l (rel_step h c)
theorem rel_start (h0 : 4 ≤ n) (h1 : n ≤ 32000) (h2 : n % 2 = 0) : Rel n ⟨newS n, [], [], []⟩ ⟨newS n, [], [], []⟩ :=
  ⟨rfl, rfl, new_ok h0 h1 h2, rfl, rfl, fun i a hi => by simp at hi, rfl, fun a ha => by simp at ha, by simp⟩
end
end Go.Sto
