/-
  OWN, REGIONS, by an invariant: a region whose operations that make memory may come in several orders and leave several worlds: at each stage (which of them are done) an invariant of the world and of the values that they have yielded. Of no program.
-/
import Derived.Test.YtipjapijadgihaaGreatDoorQOwnRegionG
set_option linter.unusedVariables false

namespace Go.Own
open Go.RowKit

def updV (ξ : Nat → Value) (i : Nat) (v : Value) : Nat → Value := fun j => if j = i then v else ξ j

/-- The frame at the end: each operation's slot: of those of 'eff' what ξ says, of the others what the list says. -/
def mixAll (eff : List Nat) (ξ : Nat → Value) : Nat → Act → List Oper → List Value → Act
  | k, a, o :: l, v :: vs => mixAll eff ξ (k + 1) (a.put o.dst (if eff.contains k then ξ k else v)) l vs
  | _, a, _, _ => a

theorem put_other' (a : Act) (o : Option Tmp) (v : Value) (d : Nat) (h : o ≠ some d) : (a.put o v).tmps[d]? = a.tmps[d]? := by
  cases o with
  | none => rfl
  | some d' =>
    have : d' ≠ d := fun e => h (by rw [e])
    simp only [Act.put, Array.getElem?_setIfInBounds_ne this]
theorem put_size (a : Act) (o : Option Tmp) (v : Value) : (a.put o v).tmps.size = a.tmps.size := by cases o <;> simp [Act.put]
theorem put_defers (a : Act) (o : Option Tmp) (v : Value) : (a.put o v).defers = a.defers := by cases o <;> rfl

theorem mix_rest (eff : List Nat) (ξ : Nat → Value) : ∀ (l : List Oper) (vs : List Value) (k : Nat) (a : Act), (mixAll eff ξ k a l vs).defers = a.defers ∧ (mixAll eff ξ k a l vs).tmps.size = a.tmps.size ∧ ∀ d, (∀ i : Nat, (l[i]?).bind Oper.dst ≠ some d) → (mixAll eff ξ k a l vs).tmps[d]? = a.tmps[d]?
  | [], _, _, _ => ⟨rfl, rfl, fun _ _ => rfl⟩
  | _ :: _, [], _, _ => ⟨rfl, rfl, fun _ _ => rfl⟩
  | o :: l, v :: vs, k, a => by
    obtain ⟨h1, h2, h3⟩ := mix_rest eff ξ l vs (k + 1) (a.put o.dst (if eff.contains k then ξ k else v))
    refine ⟨h1.trans (put_defers _ _ _), h2.trans (put_size _ _ _), fun d hd => ?_⟩
    show (mixAll eff ξ (k + 1) _ l vs).tmps[d]? = _
    rw [h3 d (fun i => by have := hd (i + 1); simpa using this)]
    exact put_other' _ _ _ _ fun e => hd 0 (by simpa using e)

theorem mix_congr (eff : List Nat) (ξ ξ' : Nat → Value) : ∀ (l : List Oper) (vs : List Value) (k : Nat) (a a' : Act) (d : Nat), a.tmps[d]? = a'.tmps[d]? → a.tmps.size = a'.tmps.size → (∀ i : Nat, (l[i]?).bind Oper.dst = some d → eff.contains (k + i) = true → ξ (k + i) = ξ' (k + i)) →
    (mixAll eff ξ k a l vs).tmps[d]? = (mixAll eff ξ' k a' l vs).tmps[d]?
  | [], _, _, _, _, _, h, _, _ => h
  | _ :: _, [], _, _, _, _, h, _, _ => h
  | o :: l, v :: vs, k, a, a', d, h, hs, hx => by
    show (mixAll eff ξ (k + 1) _ l vs).tmps[d]? = (mixAll eff ξ' (k + 1) _ l vs).tmps[d]?
    refine mix_congr eff ξ ξ' l vs (k + 1) _ _ d ?_ (by rw [put_size, put_size, hs]) (fun i hi hc => by
      have := hx (i + 1) (by simpa using hi)
      rw [show k + (i + 1) = k + 1 + i from by omega] at this
      exact this hc)
    by_cases hd : o.dst = some d
    · have h0 := hx 0 (by simpa using hd)
      rw [Nat.add_zero] at h0
      simp only [hd, Act.put, Array.getElem?_setIfInBounds, if_true, hs]
      by_cases hc : eff.contains k = true
      · simp only [hc, if_true, h0 hc]
      · rw [if_neg hc, if_neg hc]
    · rw [put_other' _ _ _ _ hd, put_other' _ _ _ _ hd]; exact h

theorem mix_self (eff : List Nat) (ξ : Nat → Value) : ∀ (l : List Oper) (vs : List Value) (k : Nat) (a : Act) (i : Nat) (d : Nat), vs.length = l.length → (l[i]?).bind Oper.dst = some d → (∀ j : Nat, (l[j]?).bind Oper.dst = some d → j = i) → eff.contains (k + i) = true → d < a.tmps.size →
    (mixAll eff ξ k a l vs).tmps[d]? = some (ξ (k + i))
  | [], _, _, _, i, _, _, h, _, _, _ => by simp at h
  | _ :: _, [], _, _, _, _, h, _, _, _, _ => by simp at h
  | o :: l, v :: vs, k, a, 0, d, hl, h, ho, hc, hd => by
    show (mixAll eff ξ (k + 1) _ l vs).tmps[d]? = _
    rw [(mix_rest eff ξ l vs (k + 1) _).2.2 d (fun j e => by have := ho (j + 1) (by simpa using e); omega)]
    have hod : o.dst = some d := by simpa using h
    rw [Nat.add_zero] at hc ⊢
    simp only [hod, Act.put, hc, if_true, Array.getElem?_setIfInBounds_self_of_lt hd]
  | o :: l, v :: vs, k, a, i + 1, d, hl, h, ho, hc, hd => by
    show (mixAll eff ξ (k + 1) _ l vs).tmps[d]? = _
    have := mix_self eff ξ l vs (k + 1) (a.put o.dst (if eff.contains k then ξ k else v)) i d (by simpa using hl) (by simpa using h) (fun j hj => by have := ho (j + 1) (by simpa using hj); omega) (by rw [show k + 1 + i = k + (i + 1) from by omega]; exact hc) (by rw [put_size]; exact hd)
    rw [this, show k + 1 + i = k + (i + 1) from by omega]

/-- One operation's step from stage to stage. -/
def StepH (P : Program) (l : List Oper) (eff : List Nat) (aX : (Nat → Value) → Act) (PI : Nat → (Nat → Value) → World → Prop) (i s s' : Nat) (o : Oper) : Prop :=
  ∀ ξ w, PI s ξ w →
    (Region.wanted o (yielded l.toArray (aX ξ).tmps) = true ∧
      (((execOp (aX ξ).eval o).run P w = .ok (.value (valOf (aX ξ) o)) w ∧ eff.contains i = false) ∨
       (eff.contains i = true ∧ ∃ v w', (execOp (aX ξ).eval o).run P w = .ok (.value v) w' ∧ PI s' (updV ξ i v) w') ∨
       (eff.contains i = true ∧ o.dst = none ∧ ∃ w', (execOp (aX ξ).eval o).run P w = .ok .skip w' ∧ PI s' ξ w') ∨
       (eff.contains i = true ∧ ∃ f args, (execOp (aX ξ).eval o).run P w = .ok (.enter f args) w ∧ Calls P f args w (fun e w' => ∃ v, e = .returned v ∧ PI s' (updV ξ i v) w')))) ∨
    (Region.wanted o (yielded l.toArray (aX ξ).tmps) = false ∧ valOf (aX ξ) o = undef ∧ eff.contains i = false)

def OblsH (P : Program) (l : List Oper) (eff : List Nat) (aX : (Nat → Value) → Act) (PI : Nat → (Nat → Value) → World → Prop) : List (Nat × Nat × Nat) → Prop
  | [] => True
  | (i, s, s') :: r => (∀ o, l[i]? = some o → StepH P l eff aX PI i s s' o) ∧ OblsH P l eff aX PI r

section
variable {P : Program} {l : List Oper} {Q : Exit → Act → World → Prop} {eff : List Nat} {stg : List (List Nat)} {last : Nat} {trs : List (Nat × Nat × Nat)} {a0 : Act} {aX : (Nat → Value) → Act} {PI : Nat → (Nat → Value) → World → Prop}

theorem oblsH_nil : OblsH P l eff aX PI [] := trivial
theorem oblsH_cons {i s s' : Nat} {r : List (Nat × Nat × Nat)} {o : Oper} (ho : l[i]? = some o) (h : StepH P l eff aX PI i s s' o) (hr : OblsH P l eff aX PI r) : OblsH P l eff aX PI ((i, s, s') :: r) :=
  ⟨fun o1 h1 => by rw [ho] at h1; cases h1; exact h, hr⟩
theorem oblsH_mem : ∀ {trs : List (Nat × Nat × Nat)}, OblsH P l eff aX PI trs → ∀ i s s', (i, s, s') ∈ trs → ∀ o, l[i]? = some o → StepH P l eff aX PI i s s' o
  | [], _, _, _, _, h => by cases h
  | (j, t, t') :: r, ⟨h1, h2⟩, i, s, s', h => by
    rcases List.mem_cons.1 h with h | h
    · cases h; exact h1
    · exact oblsH_mem h2 i s s' h

structure CoreH (l : List Oper) (a0 aF : Act) (listed : Array Bool) (a : Act) : Prop where
  size : listed.size = l.length
  closed : ∀ i j, listed.getD i false = true → direct l i j = true → listed.getD j false = true
  defers : a.defers = aF.defers
  tsize : a.tmps.size = aF.tmps.size
  done : ∀ i d, listed.getD i false = true → (l[i]?).bind Oper.dst = some d → a.tmps[d]? = aF.tmps[d]?
  open_ : ∀ d, (∀ i : Nat, (l[i]?).bind Oper.dst = some d → listed.getD i false = false) → a.tmps[d]? = a0.tmps[d]?

def PlanInvH (l : List Oper) (eff : List Nat) (stg : List (List Nat)) (a0 : Act) (aX : (Nat → Value) → Act) (PI : Nat → (Nat → Value) → World → Prop) (listed : Array Bool) (a : Act) (w : World) : Prop :=
  ∃ ξ s, CoreH l a0 (aX ξ) listed a ∧ s < stg.length ∧ (∀ e ∈ eff, listed.getD e false = (stg.getD s []).contains e) ∧ PI s ξ w

theorem plan_stepH (hp : planG l eff stg last trs = true) (hsame : ∀ ξ d, (∀ i : Nat, (l[i]?).bind Oper.dst ≠ some d) → (aX ξ).tmps[d]? = a0.tmps[d]?)
    (hdef : ∀ ξ ξ', (aX ξ).defers = (aX ξ').defers ∧ (aX ξ).tmps.size = (aX ξ').tmps.size)
    (hother : ∀ ξ i v d, (l[i]?).bind Oper.dst ≠ some d → (aX (updV ξ i v)).tmps[d]? = (aX ξ).tmps[d]?)
    (hself : ∀ ξ i v d, (l[i]?).bind Oper.dst = some d → (∀ j : Nat, (l[j]?).bind Oper.dst = some d → j = i) → eff.contains i = true → d < (aX ξ).tmps.size → (aX (updV ξ i v)).tmps[d]? = some v)
    (hob : OblsH P l eff aX PI trs)
    (listed : Array Bool) (a : Act) (w : World) (IH : PlanInvH l eff stg a0 aX PI listed a w) (i : Nat) (hi : i ∈ Region.ready .any l.toArray listed) :
    wpOp P l.toArray Q i (PlanInvH l eff stg a0 aX PI (listed.setIfInBounds i true)) a w := by
  obtain ⟨ξ, s, I, hsl, hst, hPI⟩ := IH
  obtain ⟨h0, o, ho, hall⟩ := mem_ready.1 hi
  have ho' : l[i]? = some o := by simpa using ho
  have hil : i < l.length := (List.getElem?_eq_some_iff.1 ho').1
  have hif : listed.getD i false = false := by rw [getD_same (by rw [I.size]; exact hil) false true]; exact h0
  unfold planG at hp
  simp only [Bool.and_eq_true] at hp
  obtain ⟨⟨⟨⟨⟨⟨⟨hsel, htxt⟩, hprs⟩, heff⟩, htrs⟩, hlast⟩, -⟩, -⟩ := hp
  have hi' := List.all_eq_true.1 htxt i (List.mem_range.2 hil)
  simp only [ho', Bool.and_eq_true] at hi'
  obtain ⟨⟨⟨hlook, hdst⟩, hon⟩, hgd⟩ := hi'
  -- what the operation looks at holds what it holds in the end
  have hread : ∀ d ∈ o.looksAt l.toArray, a.tmps[d]? = (aX ξ).tmps[d]? := by
    intro d hd
    have h1 := List.all_eq_true.1 hlook d hd
    by_cases hex : ∃ j : Nat, (l[j]?).bind Oper.dst = some d
    · obtain ⟨j, hj⟩ := hex
      have hjl : j < l.length := by
        rcases Nat.lt_or_ge j l.length with h | h
        · exact h
        · rw [List.getElem?_eq_none h] at hj; cases hj
      have h2 := List.all_eq_true.1 h1 j (List.mem_range.2 hjl)
      simp only [Bool.or_eq_true, bne_iff_ne, ne_eq] at h2
      rcases h2 with h2 | h2
      · exact absurd hj h2
      · refine I.done j d ?_ hj
        unfold direct at h2
        simp only [ho', List.any_eq_true, Bool.and_eq_true, beq_iff_eq] at h2
        obtain ⟨e, he, hb, rfl⟩ := h2
        exact hall e (by simpa using he) hb
    · rw [I.open_ d (fun j hj => absurd ⟨j, hj⟩ hex), hsame ξ d (fun j hj => hex ⟨j, hj⟩)]
  have hev : ∀ x ∈ o.op.operands, a.eval x = (aX ξ).eval x := by
    intro x hx
    cases x with
    | tmp d =>
      have : d ∈ o.looksAt l.toArray := by
        unfold Oper.looksAt
        refine List.mem_append_left _ (List.mem_filterMap.2 ⟨.tmp d, ?_, rfl⟩)
        simpa using hx
      have := hread d this
      simp only [Act.eval, Array.getD_eq_getD_getElem?, this]
    | const v => rfl
    | global g => rfl
    | func f => rfl
  have hex : execOp a.eval o = execOp (aX ξ).eval o := execOp_congr o (fun cs b => Region.noSelect_spec hsel i o cs b (by simpa using ho')) hev
  have hwant : Region.wanted o (yielded l.toArray a.tmps) = Region.wanted o (yielded l.toArray (aX ξ).tmps) := by
    unfold Region.wanted
    cases hg : o.guard with
    | none => rfl
    | some gw =>
      obtain ⟨j, want⟩ := gw
      have : yielded l.toArray a.tmps j = yielded l.toArray (aX ξ).tmps j := by
        unfold yielded
        cases hd : (l.toArray[j]?).bind Oper.dst with
        | none => rfl
        | some d =>
          have : d ∈ o.looksAt l.toArray := by
            unfold Oper.looksAt
            refine List.mem_append_right _ ?_
            simp only [hg, hd]
            simp
          simp only [Option.bind_some, hread d this]
      simp only [this]
  have honce : ∀ j d, o.dst = some d → (l[j]?).bind Oper.dst = some d → j = i := by
    intro j d e1 e2
    have l2 : j < l.length := by
      rcases Nat.lt_or_ge j l.length with h | h
      · exact h
      · rw [List.getElem?_eq_none h] at e2; cases e2
    have h2 := List.all_eq_true.1 hdst j (List.mem_range.2 l2)
    simp only [Bool.or_eq_true, beq_iff_eq, bne_iff_ne, ne_eq] at h2
    rcases h2 with (h2 | h2) | h2
    · exact h2
    · rw [e1] at h2; cases h2
    · exact absurd (e2.trans e1.symm) h2
  have hal : allowedG l eff (stg.getD s []) i = true := by
    unfold allowedG
    simp only [List.all_eq_true]
    intro e he
    have h1 := hst e he
    by_cases hc : (stg.getD s []).contains e = true
    · rw [if_pos hc]
      rw [hc] at h1
      simp only [Bool.and_eq_true, bne_iff_ne, ne_eq, Bool.not_eq_true']
      refine ⟨fun e1 => (by rw [e1, hif] at h1; cases h1), ?_⟩
      cases hr : reach l 3 e i with
      | false => rfl
      | true =>
        have := reach_listed I.closed 3 _ _ h1 hr
        rw [hif] at this; cases this
    · rw [if_neg hc]
      rw [Bool.not_eq_true] at hc
      rw [hc] at h1
      cases hr : reach l 3 i e with
      | false => rfl
      | true =>
        unfold reach at hr
        simp only [ho', List.any_eq_true, Bool.and_eq_true, Bool.or_eq_true, beq_iff_eq] at hr
        obtain ⟨x, hx, hb, hh⟩ := hr
        have hl := hall x (by simpa using hx) hb
        rcases hh with hh | hh
        · rw [hh] at hl; rw [hl] at h1; cases h1
        · have := reach_listed I.closed 2 _ _ hl hh
          rw [this] at h1; cases h1
  obtain ⟨s', hmem⟩ : ∃ s', (i, s, s') ∈ trs := by
    have h1 := List.all_eq_true.1 hprs i (List.mem_range.2 hil)
    have h2 := List.all_eq_true.1 h1 s (List.mem_range.2 hsl)
    rw [hal] at h2
    simp only [Bool.not_true, Bool.false_or, List.any_eq_true, Bool.and_eq_true, beq_iff_eq] at h2
    obtain ⟨⟨t1, t2, t3⟩, hm, e1, e2⟩ := h2
    simp only at e1 e2
    subst e1; subst e2
    exact ⟨t3, hm⟩
  have htr := List.all_eq_true.1 htrs _ hmem
  simp only [Bool.and_eq_true, decide_eq_true_eq] at htr
  obtain ⟨hs'l, hgo⟩ := htr
  have hstep := oblsH_mem hob i s s' hmem o ho' ξ w hPI
  have stage' : ∀ e ∈ eff, (listed.setIfInBounds i true).getD e false = (stg.getD s' []).contains e := fun e he => by
    by_cases hei : i = e
    · subst hei
      have hc : eff.contains i = true := by simpa using he
      rw [if_pos hc] at hgo
      have h1 := List.all_eq_true.1 hgo i he
      simp only [beq_self_eq_true, Bool.or_true, beq_iff_eq] at h1
      rw [h1]
      have : i < listed.size := by rw [I.size]; exact hil
      simp [this]
    · rw [getD_set_ne false hei, hst e he]
      by_cases hc : eff.contains i = true
      · rw [if_pos hc] at hgo
        have h1 := List.all_eq_true.1 hgo e he
        simp only [beq_iff_eq] at h1
        rw [h1]
        have : (e == i) = false := by simpa using fun h => hei h.symm
        rw [this, Bool.or_false]
      · rw [if_neg hc] at hgo
        rw [show s' = s from by simpa using hgo]
  -- the frame behind the step, at a valuation that agrees on all other slots
  have keep : ∀ (ζ : Nat → Value) v, (∀ d, o.dst ≠ some d → (aX ζ).tmps[d]? = (aX ξ).tmps[d]?) → (∀ d, o.dst = some d → d < a.tmps.size → some v = (aX ζ).tmps[d]?) → CoreH l a0 (aX ζ) (listed.setIfInBounds i true) (a.put o.dst v) := by
    intro ζ v hoth hv
    have hlis : ∀ j, (listed.setIfInBounds i true).getD j false = true → j = i ∨ listed.getD j false = true := by
      intro j hj
      by_cases hji : i = j
      · exact .inl hji.symm
      · rw [getD_set_ne false hji] at hj; exact .inr hj
    have hself' : ∀ d, o.dst = some d → (a.put o.dst v).tmps[d]? = (aX ζ).tmps[d]? := by
      intro d hd
      simp only [hd, Act.put]
      rcases Nat.lt_or_ge d a.tmps.size with h | h
      · rw [Array.getElem?_setIfInBounds_self_of_lt h]; exact hv d hd h
      · rw [Array.getElem?_eq_none (by simpa using h), Array.getElem?_eq_none (by rw [(hdef ζ ξ).2, ← I.tsize]; exact h)]
    refine ⟨by simpa using I.size, ?_, ?_, ?_, ?_, ?_⟩
    · intro x y hx hd
      rcases hlis x hx with rfl | hx
      · unfold direct at hd
        simp only [ho', List.any_eq_true, Bool.and_eq_true, beq_iff_eq] at hd
        obtain ⟨e, he, hb, rfl⟩ := hd
        exact getD_set_true (hall e (by simpa using he) hb)
      · exact getD_set_true (I.closed x y hx hd)
    · rw [put_defers, I.defers]; exact (hdef ξ ζ).1
    · rw [put_size, I.tsize]; exact (hdef ξ ζ).2
    · intro j d hj hd
      by_cases hod : o.dst = some d
      · exact hself' d hod
      · rw [put_other' _ _ _ _ hod, hoth d hod]
        rcases hlis j hj with rfl | hj
        · rw [ho', Option.bind_some] at hd; exact absurd hd hod
        · exact I.done j d hj hd
    · intro d hd
      have hod : o.dst ≠ some d := fun e => by
        have h1 := hd i (by rw [ho', Option.bind_some, e])
        have : i < listed.size := by rw [I.size]; exact hil
        simp [this] at h1
      rw [put_other' _ _ _ _ hod]
      refine I.open_ d fun j hj => ?_
      have h1 := hd j hj
      by_cases hji : i = j
      · subst hji; exact hif
      · rwa [getD_set_ne false hji] at h1
  have hval : ∀ d, o.dst = some d → d < a.tmps.size → some (valOf (aX ξ) o) = (aX ξ).tmps[d]? := by
    intro d hd hlt
    unfold valOf
    simp only [hd]
    rw [I.tsize] at hlt
    simp [hlt]
  have hsame_s : eff.contains i = false → s' = s := fun hc => by rw [if_neg (by rw [hc]; decide)] at hgo; simpa using hgo
  unfold Go.wpOp
  simp only [ho, hwant]
  rcases hstep with ⟨hwt, hr⟩ | ⟨hwt, hvu, hc⟩
  · rw [if_pos hwt]
    refine .inl ?_
    unfold Oper.wp
    rw [hex]
    rcases hr with ⟨hr, hc⟩ | ⟨hc, v, w', hr, hPI'⟩ | ⟨hc, hdn, w', hr, hPI'⟩ | ⟨hc, f, args, hr, hcl⟩
    · rw [hr]
      exact ⟨ξ, s', keep ξ _ (fun _ _ => rfl) hval, hs'l, stage', by rw [hsame_s hc]; exact hPI⟩
    · rw [hr]
      refine ⟨updV ξ i v, s', keep (updV ξ i v) v (fun d hd => hother ξ i v d (by rw [ho', Option.bind_some]; exact hd)) (fun d hd hlt => ?_), hs'l, stage', hPI'⟩
      exact (hself ξ i v d (by rw [ho', Option.bind_some]; exact hd) (fun j hj => honce j d hd hj) hc (by rw [← I.tsize]; exact hlt)).symm
    · rw [hr]
      exact ⟨ξ, s', keep ξ _ (fun _ _ => rfl) (fun d hd => by rw [hdn] at hd; cases hd), hs'l, stage', hPI'⟩
    · rw [hr, Oper.upon_enter]
      refine hcl.mono fun e w'' ⟨v, he, hPI'⟩ => ?_
      subst he
      refine ⟨updV ξ i v, s', keep (updV ξ i v) v (fun d hd => hother ξ i v d (by rw [ho', Option.bind_some]; exact hd)) (fun d hd hlt => ?_), hs'l, stage', hPI'⟩
      exact (hself ξ i v d (by rw [ho', Option.bind_some]; exact hd) (fun j hj => honce j d hd hj) hc (by rw [← I.tsize]; exact hlt)).symm
  · rw [if_neg (by rw [hwt]; decide)]
    have := keep ξ (valOf (aX ξ) o) (fun _ _ => rfl) hval
    rw [hvu] at this
    exact ⟨ξ, s', this, hs'l, stage', by rw [hsame_s hc]; exact hPI⟩
theorem wpAny_planH (hp : planG l eff stg last trs = true) (hsame : ∀ ξ d, (∀ i : Nat, (l[i]?).bind Oper.dst ≠ some d) → (aX ξ).tmps[d]? = a0.tmps[d]?)
    (hdef : ∀ ξ ξ', (aX ξ).defers = (aX ξ').defers ∧ (aX ξ).tmps.size = (aX ξ').tmps.size)
    (hother : ∀ ξ i v d, (l[i]?).bind Oper.dst ≠ some d → (aX (updV ξ i v)).tmps[d]? = (aX ξ).tmps[d]?)
    (hself : ∀ ξ i v d, (l[i]?).bind Oper.dst = some d → (∀ j : Nat, (l[j]?).bind Oper.dst = some d → j = i) → eff.contains i = true → d < (aX ξ).tmps.size → (aX (updV ξ i v)).tmps[d]? = some v)
    (hob : OblsH P l eff aX PI trs)
    (hend : ∀ ξ w, PI last ξ w → Q .normal (aX ξ) w) : ∀ (fuel : Nat) (listed : Array Bool) (a : Act) (w : World), PlanInvH l eff stg a0 aX PI listed a w → unlisted listed ≤ fuel → wpAny P .any l.toArray Q fuel listed a w := by
  have full : ∀ (listed : Array Bool) (a : Act) (w : World), PlanInvH l eff stg a0 aX PI listed a w → (∀ i, i < l.length → listed.getD i false = true) → Q .normal a w := by
    intro listed a w IH hall
    obtain ⟨ξ, s, I, hsl, hst, hPI⟩ := IH
    have ha : a = aX ξ := by
      have ht : a.tmps = (aX ξ).tmps := by
        apply Array.ext_getElem?
        intro d
        by_cases hex : ∃ j : Nat, (l[j]?).bind Oper.dst = some d
        · obtain ⟨j, hj⟩ := hex
          have hjl : j < l.length := by
            rcases Nat.lt_or_ge j l.length with h | h
            · exact h
            · rw [List.getElem?_eq_none h] at hj; cases hj
          exact I.done j d (hall j hjl) hj
        · rw [I.open_ d (fun j hj => absurd ⟨j, hj⟩ hex), hsame ξ d (fun j hj => hex ⟨j, hj⟩)]
      have hd := I.defers
      cases a
      generalize aX ξ = b at *
      cases b
      simp only at ht hd
      rw [ht, hd]
    have hse : s = last := by
      unfold planG at hp
      simp only [Bool.and_eq_true] at hp
      obtain ⟨⟨⟨⟨⟨⟨⟨_, _⟩, _⟩, heff⟩, _⟩, hlast⟩, -⟩, -⟩ := hp
      have h1 := List.all_eq_true.1 hlast s (List.mem_range.2 hsl)
      have h2 : eff.all (fun e => (stg.getD s []).contains e) = true := List.all_eq_true.2 fun e he => by
        have h3 := List.all_eq_true.1 heff e he
        rw [← hst e he]; exact hall e (by simpa using h3)
      rw [h2] at h1
      simpa using h1
    subst hse
    rw [ha]; exact hend ξ w hPI
  have hnone : ∀ (listed : Array Bool) (a : Act) (w : World), PlanInvH l eff stg a0 aX PI listed a w → Region.ready .any l.toArray listed = [] → Q .normal a w := by
    intro listed a w IH hr
    have I := IH.choose_spec.choose_spec.1
    have hall : ∀ n i, i < n → i < l.length → listed.getD i false = true := by
      intro n
      induction n with
      | zero => intro i h; omega
      | succ n ih =>
        intro i hin hil
        cases hb : listed.getD i false with
        | true => rfl
        | false =>
          exfalso
          have hm : i ∈ Region.ready .any l.toArray listed := by
            refine mem_ready.2 ⟨by rw [getD_same (by rw [I.size]; exact hil) true false]; exact hb, l[i], by simp [hil], fun e he hbd => ?_⟩
            unfold planG at hp
            simp only [Bool.and_eq_true] at hp
            have hi' := List.all_eq_true.1 hp.1.1.1.1.1.1.2 i (List.mem_range.2 hil)
            rw [List.getElem?_eq_getElem hil] at hi'
            simp only [Bool.and_eq_true] at hi'
            have h1 := List.all_eq_true.1 hi'.1.2 e (by simpa using he)
            simp only [hbd, Bool.not_true, Bool.false_or, decide_eq_true_eq] at h1
            exact ih e.on (by omega) (by omega)
          rw [hr] at hm; cases hm
    exact full listed a w IH fun i hi => hall l.length i hi hi
  intro fuel
  induction fuel with
  | zero =>
    intro listed a w IH hu
    have I := IH.choose_spec.choose_spec.1
    have hall : ∀ i, i < l.length → listed.getD i false = true := by
      intro i hi
      cases hb : listed.getD i false with
      | true => rfl
      | false =>
        have := unlisted_set (i := i) (by rw [I.size]; exact hi) hb
        omega
    refine ⟨?_, full listed a w IH hall⟩
    cases hr : Region.ready .any l.toArray listed with
    | nil => rfl
    | cons i r =>
      exfalso
      obtain ⟨h0, o, ho, _⟩ := mem_ready.1 (hr ▸ List.mem_cons_self : i ∈ Region.ready .any l.toArray listed)
      have hil : i < l.length := by
        have : i < l.toArray.size := (Array.getElem?_eq_some_iff.1 ho).1
        simpa using this
      have h1 := hall i hil
      rw [getD_same (by rw [I.size]; exact hil) false true, h0] at h1
      cases h1
  | succ n ih =>
    intro listed a w IH hu
    have I := IH.choose_spec.choose_spec.1
    refine ⟨fun hr => hnone listed a w IH hr, fun i hi => ?_⟩
    refine wpOp_mono (fun a' w' I' => ih _ a' w' I' ?_) (plan_stepH hp hsame hdef hother hself hob listed a w IH i hi)
    obtain ⟨h0, o, ho, hall⟩ := mem_ready.1 hi
    have hil : i < listed.size := by
      rw [I.size]
      have : i < l.toArray.size := (Array.getElem?_eq_some_iff.1 ho).1
      simpa using this
    have := unlisted_set hil (by rw [getD_same hil false true]; exact h0)
    omega


theorem wp_region_planH {id : Nat} {a : Act} {w : World} (eff : List Nat) (stg : List (List Nat)) (last : Nat) (trs : List (Nat × Nat × Nat)) (vs : List Value) (PI : Nat → (Nat → Value) → World → Prop) (aX : (Nat → Value) → Act) (hm : P.follows .mixedOrders = true) (hp : planG l eff stg last trs = true) (hvs : vs.length = l.length)
    (hX : ∀ ξ, mixAll eff ξ 0 a l vs = aX ξ) (ξ0 : Nat → Value) (h0 : PI 0 ξ0 w.drew) (hob : OblsH P l eff aX PI trs) (hend : ∀ ξ w, PI last ξ w → Q .normal (aX ξ) w) : (Code.region id l.toArray true).wp P Q a w := by
  have hst : stg.getD 0 [] = [] ∧ 0 < stg.length := by
    unfold planG at hp
    simp only [Bool.and_eq_true, decide_eq_true_eq, List.isEmpty_iff] at hp
    exact ⟨hp.1.2, hp.2⟩
  have hr := fun ξ => mix_rest eff ξ l vs 0 a
  have hsame : ∀ ξ d, (∀ i : Nat, (l[i]?).bind Oper.dst ≠ some d) → (aX ξ).tmps[d]? = a.tmps[d]? := fun ξ d hd => by rw [← hX ξ]; exact (hr ξ).2.2 d hd
  have hdef : ∀ ξ ξ', (aX ξ).defers = (aX ξ').defers ∧ (aX ξ).tmps.size = (aX ξ').tmps.size := fun ξ ξ' => by
    rw [← hX ξ, ← hX ξ']
    exact ⟨(hr ξ).1.trans (hr ξ').1.symm, (hr ξ).2.1.trans (hr ξ').2.1.symm⟩
  have hother : ∀ ξ i v d, (l[i]?).bind Oper.dst ≠ some d → (aX (updV ξ i v)).tmps[d]? = (aX ξ).tmps[d]? := fun ξ i v d hd => by
    rw [← hX, ← hX ξ]
    refine mix_congr eff _ _ l vs 0 a a d rfl rfl fun j hj _ => ?_
    simp only [Nat.zero_add]
    unfold updV
    rw [if_neg (fun e => hd (by rw [← e]; exact hj))]
  have hself : ∀ ξ i v d, (l[i]?).bind Oper.dst = some d → (∀ j : Nat, (l[j]?).bind Oper.dst = some d → j = i) → eff.contains i = true → d < (aX ξ).tmps.size → (aX (updV ξ i v)).tmps[d]? = some v := fun ξ i v d hd ho hc hlt => by
    have hsz : d < a.tmps.size := by rw [← (hr ξ).2.1, hX ξ]; exact hlt
    have := mix_self eff (updV ξ i v) l vs 0 a i d hvs hd ho (by rw [Nat.zero_add]; exact hc) hsz
    rw [hX] at this
    rw [this]
    simp [updV]
  refine wp_region_any hm (wpAny_planH (a0 := a) hp hsame hdef hother hself hob hend _ _ _ _ ⟨ξ0, 0, ⟨by simp, ?_, ?_, ?_, ?_, fun _ _ => rfl⟩, hst.2, ?_, h0⟩ ?_)
  · intro i j hi; rw [getD_rep] at hi; cases hi
  · rw [← hX ξ0]; exact (hr ξ0).1.symm
  · rw [← hX ξ0]; exact (hr ξ0).2.1.symm
  · intro i d hi; rw [getD_rep] at hi; cases hi
  · intro e he; rw [getD_rep, hst.1]; rfl
  · simp [unlisted]
end
section
variable {P : Program} {l : List Oper} {eff : List Nat} {aX : (Nat → Value) → Act} {PI : Nat → (Nat → Value) → World → Prop} {i s s' : Nat} {o : Oper}
theorem stepH_value (hg : o.guard = none) (he : eff.contains i = false) (h : ∀ ξ w, PI s ξ w → (execOp (aX ξ).eval o).run P w = .ok (.value (valOf (aX ξ) o)) w) : StepH P l eff aX PI i s s' o :=
  fun ξ w hp => .inl ⟨by simp [Region.wanted, hg], .inl ⟨h ξ w hp, he⟩⟩
theorem stepH_make (hg : o.guard = none) (he : eff.contains i = true) (h : ∀ ξ w, PI s ξ w → ∃ v w', (execOp (aX ξ).eval o).run P w = .ok (.value v) w' ∧ PI s' (updV ξ i v) w') : StepH P l eff aX PI i s s' o :=
  fun ξ w hp => .inl ⟨by simp [Region.wanted, hg], .inr (.inl ⟨he, h ξ w hp⟩)⟩
theorem stepH_store (hg : o.guard = none) (hd : o.dst = none) (he : eff.contains i = true) (h : ∀ ξ w, PI s ξ w → ∃ w', (execOp (aX ξ).eval o).run P w = .ok .skip w' ∧ PI s' ξ w') : StepH P l eff aX PI i s s' o :=
  fun ξ w hp => .inl ⟨by simp [Region.wanted, hg], .inr (.inr (.inl ⟨he, hd, h ξ w hp⟩))⟩
theorem stepH_call (hg : o.guard = none) (he : eff.contains i = true) (h : ∀ ξ w, PI s ξ w → ∃ f args, (execOp (aX ξ).eval o).run P w = .ok (.enter f args) w ∧ Calls P f args w (fun e w' => ∃ v, e = .returned v ∧ PI s' (updV ξ i v) w')) : StepH P l eff aX PI i s s' o :=
  fun ξ w hp => .inl ⟨by simp [Region.wanted, hg], .inr (.inr (.inr ⟨he, h ξ w hp⟩))⟩
theorem stepH_off (he : eff.contains i = false) (h : ∀ ξ w, PI s ξ w → Region.wanted o (yielded l.toArray (aX ξ).tmps) = false ∧ valOf (aX ξ) o = undef) : StepH P l eff aX PI i s s' o :=
  fun ξ w hp => .inr ⟨(h ξ w hp).1, (h ξ w hp).2, he⟩
theorem stepH_append (hg : o.guard = none) (he : eff.contains i = true) (a x : Operand) (t u : TypeId) (hop : o.op = Op.call { callee := Callee.builtin Builtin.append, args := #[a, x], argTypes := #[t, u] })
    (h : ∀ ξ w, PI s ξ w → ∃ v w', (Builtin.append_ #[t, u] o.type #[(aX ξ).eval a, (aX ξ).eval x]).run P w = .ok v w' ∧ PI s' (updV ξ i v) w') : StepH P l eff aX PI i s s' o :=
  stepH_make hg he fun ξ w hp => by
    obtain ⟨v, w', hr, hq⟩ := h ξ w hp
    exact ⟨v, w', by simp [execOp, hop, resolve, invoke, builtin, hr, Result.andThen], hq⟩
end
#print axioms wp_region_planH
end Go.Own
