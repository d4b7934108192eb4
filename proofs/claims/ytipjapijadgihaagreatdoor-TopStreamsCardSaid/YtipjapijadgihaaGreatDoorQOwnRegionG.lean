/-
  OWN, REGIONS, where the operations that turn memory come in no fixed order among themselves: the plan names the stages (which of them are done), the world at each, and each operation's step from stage to stage. Of no program.
-/
import Derived.Test.YtipjapijadgihaaGreatDoorQOwnRegion
set_option linter.unusedVariables false

namespace Go.Own
open Go.RowKit

/-- Operation i may come up at a stage at which just the operations 'st' that turn memory are done. -/
def allowedG (l : List Oper) (eff st : List Nat) (i : Nat) : Bool :=
  eff.all fun e => if st.contains e then e != i && !reach l 3 e i else !reach l 3 i e

def planG (l : List Oper) (eff : List Nat) (stg : List (List Nat)) (last : Nat) (trs : List (Nat × Nat × Nat)) : Bool :=
  Region.noSelect l.toArray &&
  (List.range l.length).all (fun i => match l[i]? with
    | some o => (o.looksAt l.toArray).all (fun d => (List.range l.length).all fun j => ((l[j]?).bind Oper.dst) != some d || direct l i j) &&
      (List.range l.length).all (fun j => j == i || o.dst == none || ((l[j]?).bind Oper.dst) != o.dst) &&
      o.after.toList.all (fun e => !Region.binds .any e || decide (e.on < i)) &&
      (match o.guard with | none => true | some (j, _) => ((l[j]?).bind Oper.dst).isSome)
    | none => true) &&
  (List.range l.length).all (fun i => (List.range stg.length).all fun s => !allowedG l eff (stg.getD s []) i || trs.any fun t => t.1 == i && t.2.1 == s) &&
  eff.all (fun e => decide (e < l.length)) &&
  trs.all (fun t => decide (t.2.2 < stg.length) && if eff.contains t.1 then eff.all (fun e => (stg.getD t.2.2 []).contains e == ((stg.getD t.2.1 []).contains e || e == t.1)) else t.2.2 == t.2.1) &&
  (List.range stg.length).all (fun s => !eff.all (fun e => (stg.getD s []).contains e) || s == last) &&
  (stg.getD 0 []).isEmpty && decide (0 < stg.length)

def OblsG (P : Program) (l : List Oper) (aF : Act) (Ws : List World) : List (Nat × Nat × Nat) → Prop
  | [] => True
  | (i, s, s') :: r => (∀ o w w', l[i]? = some o → Ws[s]? = some w → Ws[s']? = some w' → Runs P l aF o w w') ∧ OblsG P l aF Ws r

theorem oblsG_nil {P : Program} {l : List Oper} {aF : Act} {Ws : List World} : OblsG P l aF Ws [] := trivial
theorem oblsG_cons {P : Program} {l : List Oper} {aF : Act} {Ws : List World} {i s s' : Nat} {r : List (Nat × Nat × Nat)} {o : Oper} {w w' : World} (ho : l[i]? = some o) (hw : Ws[s]? = some w) (hw' : Ws[s']? = some w')
    (h : Runs P l aF o w w') (hr : OblsG P l aF Ws r) : OblsG P l aF Ws ((i, s, s') :: r) :=
  ⟨fun o1 w1 w1' h1 h2 h3 => by rw [ho] at h1; rw [hw] at h2; rw [hw'] at h3; cases h1; cases h2; cases h3; exact h, hr⟩
theorem oblsG_mem {P : Program} {l : List Oper} {aF : Act} {Ws : List World} : ∀ {trs : List (Nat × Nat × Nat)}, OblsG P l aF Ws trs → ∀ i s s', (i, s, s') ∈ trs → ∀ o w w', l[i]? = some o → Ws[s]? = some w → Ws[s']? = some w' → Runs P l aF o w w'
  | [], _, _, _, _, h => by cases h
  | (j, t, t') :: r, ⟨h1, h2⟩, i, s, s', h => by
    rcases List.mem_cons.1 h with h | h
    · cases h; exact h1
    · exact oblsG_mem h2 i s s' h

section
variable {P : Program} {l : List Oper} {Q : Exit → Act → World → Prop} {eff : List Nat} {stg : List (List Nat)} {last : Nat} {trs : List (Nat × Nat × Nat)} {a0 aF : Act} {Ws : List World}

structure PlanInvG (l : List Oper) (eff : List Nat) (stg : List (List Nat)) (a0 aF : Act) (Ws : List World) (listed : Array Bool) (a : Act) (w : World) : Prop where
  size : listed.size = l.length
  closed : ∀ i j, listed.getD i false = true → direct l i j = true → listed.getD j false = true
  defers : a.defers = aF.defers
  tsize : a.tmps.size = aF.tmps.size
  done : ∀ i d, listed.getD i false = true → (l[i]?).bind Oper.dst = some d → a.tmps[d]? = aF.tmps[d]?
  open_ : ∀ d, (∀ i : Nat, (l[i]?).bind Oper.dst = some d → listed.getD i false = false) → a.tmps[d]? = a0.tmps[d]?
  stage : ∃ s, Ws[s]? = some w ∧ s < stg.length ∧ ∀ e ∈ eff, listed.getD e false = (stg.getD s []).contains e

theorem plan_stepG (hp : planG l eff stg last trs = true) (hsame : ∀ d, (∀ i : Nat, (l[i]?).bind Oper.dst ≠ some d) → aF.tmps[d]? = a0.tmps[d]?) (_hsz : aF.tmps.size = a0.tmps.size) (hW : Ws.length = stg.length) (hob : OblsG P l aF Ws trs)
    (listed : Array Bool) (a : Act) (w : World) (I : PlanInvG l eff stg a0 aF Ws listed a w) (i : Nat) (hi : i ∈ Region.ready .any l.toArray listed) :
    wpOp P l.toArray Q i (PlanInvG l eff stg a0 aF Ws (listed.setIfInBounds i true)) a w := by
  obtain ⟨h0, o, ho, hall⟩ := mem_ready.1 hi
  have ho' : l[i]? = some o := by simpa using ho
  have hil : i < l.length := (List.getElem?_eq_some_iff.1 ho').1
  have hif : listed.getD i false = false := by rw [getD_same (by rw [I.size]; exact hil) false true]; exact h0
  unfold planG at hp
  simp only [Bool.and_eq_true] at hp
  obtain ⟨⟨⟨⟨⟨⟨⟨hsel, htxt⟩, hprs⟩, heff⟩, htrs⟩, hlast⟩, -⟩, -⟩ := hp
  have hi' := List.all_eq_true.1 htxt i (List.mem_range.2 hil)
  simp only [ho', Bool.and_eq_true] at hi'
  obtain ⟨⟨⟨hlook, hdst⟩, hon⟩, hgd⟩ := hi'
  -- what the operation looks at holds what it holds in the end
  have hread : ∀ d ∈ o.looksAt l.toArray, a.tmps[d]? = aF.tmps[d]? := by
    intro d hd
    have h1 := List.all_eq_true.1 hlook d hd
    by_cases hex : ∃ j : Nat, (l[j]?).bind Oper.dst = some d
    · obtain ⟨j, hj⟩ := hex
      have hjl : j < l.length := by
        rcases Nat.lt_or_ge j l.length with h | h
        · exact h
        · rw [List.getElem?_eq_none h] at hj; cases hj
      have h2 := List.all_eq_true.1 h1 j (List.mem_range.2 hjl)
      simp only [Bool.or_eq_true, bne_iff_ne, ne_eq] at h2
      rcases h2 with h2 | h2
      · exact absurd hj h2
      · refine I.done j d ?_ hj
        unfold direct at h2
        simp only [ho', List.any_eq_true, Bool.and_eq_true, beq_iff_eq] at h2
        obtain ⟨e, he, hb, rfl⟩ := h2
        exact hall e (by simpa using he) hb
    · rw [I.open_ d (fun j hj => absurd ⟨j, hj⟩ hex), hsame d (fun j hj => hex ⟨j, hj⟩)]
  have hev : ∀ x ∈ o.op.operands, a.eval x = aF.eval x := by
    intro x hx
    cases x with
    | tmp d =>
      have : d ∈ o.looksAt l.toArray := by
        unfold Oper.looksAt
        refine List.mem_append_left _ (List.mem_filterMap.2 ⟨.tmp d, ?_, rfl⟩)
        simpa using hx
      have := hread d this
      simp only [Act.eval, Array.getD_eq_getD_getElem?, this]
    | const v => rfl
    | global g => rfl
    | func f => rfl
  have hex : execOp a.eval o = execOp aF.eval o := execOp_congr o (fun cs b => Region.noSelect_spec hsel i o cs b (by simpa using ho')) hev
  have hwant : Region.wanted o (yielded l.toArray a.tmps) = Region.wanted o (yielded l.toArray aF.tmps) := by
    unfold Region.wanted
    cases hg : o.guard with
    | none => rfl
    | some gw =>
      obtain ⟨j, want⟩ := gw
      have : yielded l.toArray a.tmps j = yielded l.toArray aF.tmps j := by
        unfold yielded
        cases hd : (l.toArray[j]?).bind Oper.dst with
        | none => rfl
        | some d =>
          have : d ∈ o.looksAt l.toArray := by
            unfold Oper.looksAt
            refine List.mem_append_right _ ?_
            simp only [hg, hd]
            simp
          simp only [Option.bind_some, hread d this]
      simp only [this]
  obtain ⟨s, hs, hsl, hst⟩ := I.stage
  have hal : allowedG l eff (stg.getD s []) i = true := by
    unfold allowedG
    simp only [List.all_eq_true]
    intro e he
    have h1 := hst e he
    by_cases hc : (stg.getD s []).contains e = true
    · rw [if_pos hc]
      rw [hc] at h1
      simp only [Bool.and_eq_true, bne_iff_ne, ne_eq, Bool.not_eq_true']
      refine ⟨fun e1 => (by rw [e1, hif] at h1; cases h1), ?_⟩
      cases hr : reach l 3 e i with
      | false => rfl
      | true =>
        have := reach_listed I.closed 3 _ _ h1 hr
        rw [hif] at this; cases this
    · rw [if_neg hc]
      rw [Bool.not_eq_true] at hc
      rw [hc] at h1
      cases hr : reach l 3 i e with
      | false => rfl
      | true =>
        unfold reach at hr
        simp only [ho', List.any_eq_true, Bool.and_eq_true, Bool.or_eq_true, beq_iff_eq] at hr
        obtain ⟨x, hx, hb, hh⟩ := hr
        have hl := hall x (by simpa using hx) hb
        rcases hh with hh | hh
        · rw [hh] at hl; rw [hl] at h1; cases h1
        · have := reach_listed I.closed 2 _ _ hl hh
          rw [this] at h1; cases h1
  obtain ⟨s', hmem⟩ : ∃ s', (i, s, s') ∈ trs := by
    have h1 := List.all_eq_true.1 hprs i (List.mem_range.2 hil)
    have h2 := List.all_eq_true.1 h1 s (List.mem_range.2 hsl)
    rw [hal] at h2
    simp only [Bool.not_true, Bool.false_or, List.any_eq_true, Bool.and_eq_true, beq_iff_eq] at h2
    obtain ⟨⟨t1, t2, t3⟩, hm, e1, e2⟩ := h2
    simp only at e1 e2
    subst e1; subst e2
    exact ⟨t3, hm⟩
  have htr := List.all_eq_true.1 htrs _ hmem
  simp only [Bool.and_eq_true, decide_eq_true_eq] at htr
  obtain ⟨hs'l, hgo⟩ := htr
  obtain ⟨w', hw'⟩ : ∃ w', Ws[s']? = some w' := ⟨_, List.getElem?_eq_getElem (by rw [hW]; exact hs'l)⟩
  have hrun := oblsG_mem hob i s s' hmem o w w' ho' hs hw'
  have keep : ∀ v, (∀ d, o.dst = some d → d < a.tmps.size → some v = aF.tmps[d]?) → PlanInvG l eff stg a0 aF Ws (listed.setIfInBounds i true) (a.put o.dst v) w' := by
    intro v hv
    have hlis : ∀ j, (listed.setIfInBounds i true).getD j false = true → j = i ∨ listed.getD j false = true := by
      intro j hj
      by_cases hji : i = j
      · exact .inl hji.symm
      · rw [getD_set_ne false hji] at hj; exact .inr hj
    have hput : ∀ d, o.dst ≠ some d → (a.put o.dst v).tmps[d]? = a.tmps[d]? := by
      intro d hd
      cases hdo : o.dst with
      | none => rfl
      | some d' =>
        have : d' ≠ d := fun e => hd (by rw [hdo, e])
        simp only [Act.put, Array.getElem?_setIfInBounds_ne this]
    have hself : ∀ d, o.dst = some d → (a.put o.dst v).tmps[d]? = aF.tmps[d]? := by
      intro d hd
      simp only [hd, Act.put]
      rcases Nat.lt_or_ge d a.tmps.size with h | h
      · rw [Array.getElem?_setIfInBounds_self_of_lt h]; exact hv d hd h
      · rw [Array.getElem?_eq_none (by simpa using h), Array.getElem?_eq_none (by rw [← I.tsize]; exact h)]
    refine ⟨by simpa using I.size, ?_, ?_, ?_, ?_, ?_, ?_⟩
    · intro x y hx hd
      rcases hlis x hx with rfl | hx
      · unfold direct at hd
        simp only [ho', List.any_eq_true, Bool.and_eq_true, beq_iff_eq] at hd
        obtain ⟨e, he, hb, rfl⟩ := hd
        exact getD_set_true (hall e (by simpa using he) hb)
      · exact getD_set_true (I.closed x y hx hd)
    · cases o.dst <;> exact I.defers
    · cases hdo : o.dst with
      | none => exact I.tsize
      | some d => simpa [Act.put] using I.tsize
    · intro j d hj hd
      rcases hlis j hj with rfl | hj
      · rw [ho', Option.bind_some] at hd
        exact hself d hd
      · by_cases hod : o.dst = some d
        · exact hself d hod
        · rw [hput d hod]; exact I.done j d hj hd
    · intro d hd
      have hod : o.dst ≠ some d := fun e => by
        have h1 := hd i (by rw [ho', Option.bind_some, e])
        have : i < listed.size := by rw [I.size]; exact hil
        simp [this] at h1
      rw [hput d hod]
      refine I.open_ d fun j hj => ?_
      have h1 := hd j hj
      by_cases hji : i = j
      · subst hji; exact hif
      · rwa [getD_set_ne false hji] at h1
    · refine ⟨s', hw', hs'l, fun e he => ?_⟩
      by_cases hei : i = e
      · subst hei
        have hc : eff.contains i = true := by simpa using he
        rw [if_pos hc] at hgo
        have h1 := List.all_eq_true.1 hgo i he
        simp only [beq_self_eq_true, Bool.or_true, beq_iff_eq] at h1
        rw [h1]
        have : i < listed.size := by rw [I.size]; exact hil
        simp [this]
      · rw [getD_set_ne false hei, hst e he]
        by_cases hc : eff.contains i = true
        · rw [if_pos hc] at hgo
          have h1 := List.all_eq_true.1 hgo e he
          simp only [beq_iff_eq] at h1
          rw [h1]
          have : (e == i) = false := by simpa using fun h => hei h.symm
          rw [this, Bool.or_false]
        · rw [if_neg hc] at hgo
          rw [show s' = s from by simpa using hgo]
  unfold Go.wpOp
  simp only [ho, hwant]
  have hval : ∀ d, o.dst = some d → d < a.tmps.size → some (valOf aF o) = aF.tmps[d]? := by
    intro d hd hlt
    unfold valOf
    simp only [hd]
    rw [I.tsize] at hlt
    simp [hlt]
  rcases hrun with ⟨hwt, hr⟩ | ⟨hwt, hvu, rfl⟩
  · rw [if_pos hwt]
    refine .inl ?_
    unfold Oper.wp
    rw [hex]
    rcases hr with hr | ⟨hr, hdn⟩ | ⟨f, args, hr, hcl⟩
    · rw [hr]; exact keep _ hval
    · rw [hr]; exact keep _ (fun d hd => by rw [hdn] at hd; cases hd)
    · rw [hr, Oper.upon_enter]
      refine hcl.mono fun e w'' ⟨he, hw⟩ => ?_
      subst he
      subst hw
      exact keep _ hval
  · rw [if_neg (by rw [hwt]; decide)]
    have := keep (valOf aF o) hval
    rw [hvu] at this
    exact this


theorem wpAny_planG (hp : planG l eff stg last trs = true) (hsame : ∀ d, (∀ i : Nat, (l[i]?).bind Oper.dst ≠ some d) → aF.tmps[d]? = a0.tmps[d]?) (hsz : aF.tmps.size = a0.tmps.size) (hW : Ws.length = stg.length) (hob : OblsG P l aF Ws trs) (wl : World) (hl : Ws[last]? = some wl)
    (hend : Q .normal aF wl) : ∀ (fuel : Nat) (listed : Array Bool) (a : Act) (w : World), PlanInvG l eff stg a0 aF Ws listed a w → unlisted listed ≤ fuel → wpAny P .any l.toArray Q fuel listed a w := by
  have full : ∀ (listed : Array Bool) (a : Act) (w : World), PlanInvG l eff stg a0 aF Ws listed a w → (∀ i, i < l.length → listed.getD i false = true) → Q .normal a w := by
    intro listed a w I hall
    have ha : a = aF := by
      have ht : a.tmps = aF.tmps := by
        apply Array.ext_getElem?
        intro d
        by_cases hex : ∃ j : Nat, (l[j]?).bind Oper.dst = some d
        · obtain ⟨j, hj⟩ := hex
          have hjl : j < l.length := by
            rcases Nat.lt_or_ge j l.length with h | h
            · exact h
            · rw [List.getElem?_eq_none h] at hj; cases hj
          exact I.done j d (hall j hjl) hj
        · rw [I.open_ d (fun j hj => absurd ⟨j, hj⟩ hex), hsame d (fun j hj => hex ⟨j, hj⟩)]
      obtain ⟨t1, d1⟩ := a
      obtain ⟨t2, d2⟩ := aF
      have hd : d1 = d2 := I.defers
      have ht' : t1 = t2 := ht
      rw [hd, ht']
    obtain ⟨s, hs, hsl, hst⟩ := I.stage
    have hse : s = last := by
      unfold planG at hp
      simp only [Bool.and_eq_true] at hp
      obtain ⟨⟨⟨⟨⟨⟨⟨_, _⟩, _⟩, heff⟩, _⟩, hlast⟩, -⟩, -⟩ := hp
      have h1 := List.all_eq_true.1 hlast s (List.mem_range.2 hsl)
      have h2 : eff.all (fun e => (stg.getD s []).contains e) = true := List.all_eq_true.2 fun e he => by
        have h3 := List.all_eq_true.1 heff e he
        rw [← hst e he]; exact hall e (by simpa using h3)
      rw [h2] at h1
      simpa using h1
    subst hse
    rw [hl] at hs
    cases hs
    rw [ha]; exact hend
  have hnone : ∀ (listed : Array Bool) (a : Act) (w : World), PlanInvG l eff stg a0 aF Ws listed a w → Region.ready .any l.toArray listed = [] → Q .normal a w := by
    intro listed a w I hr
    have hall : ∀ n i, i < n → i < l.length → listed.getD i false = true := by
      intro n
      induction n with
      | zero => intro i h; omega
      | succ n ih =>
        intro i hin hil
        cases hb : listed.getD i false with
        | true => rfl
        | false =>
          exfalso
          have hm : i ∈ Region.ready .any l.toArray listed := by
            refine mem_ready.2 ⟨by rw [getD_same (by rw [I.size]; exact hil) true false]; exact hb, l[i], by simp [hil], fun e he hbd => ?_⟩
            unfold planG at hp
            simp only [Bool.and_eq_true] at hp
            have hi' := List.all_eq_true.1 hp.1.1.1.1.1.1.2 i (List.mem_range.2 hil)
            rw [List.getElem?_eq_getElem hil] at hi'
            simp only [Bool.and_eq_true] at hi'
            have h1 := List.all_eq_true.1 hi'.1.2 e (by simpa using he)
            simp only [hbd, Bool.not_true, Bool.false_or, decide_eq_true_eq] at h1
            exact ih e.on (by omega) (by omega)
          rw [hr] at hm; cases hm
    exact full listed a w I fun i hi => hall l.length i hi hi
  intro fuel
  induction fuel with
  | zero =>
    intro listed a w I hu
    have hall : ∀ i, i < l.length → listed.getD i false = true := by
      intro i hi
      cases hb : listed.getD i false with
      | true => rfl
      | false =>
        have := unlisted_set (i := i) (by rw [I.size]; exact hi) hb
        omega
    refine ⟨?_, full listed a w I hall⟩
    cases hr : Region.ready .any l.toArray listed with
    | nil => rfl
    | cons i r =>
      exfalso
      obtain ⟨h0, o, ho, _⟩ := mem_ready.1 (hr ▸ List.mem_cons_self : i ∈ Region.ready .any l.toArray listed)
      have hil : i < l.length := by
        have : i < l.toArray.size := (Array.getElem?_eq_some_iff.1 ho).1
        simpa using this
      have h1 := hall i hil
      rw [getD_same (by rw [I.size]; exact hil) false true, h0] at h1
      cases h1
  | succ n ih =>
    intro listed a w I hu
    refine ⟨fun hr => hnone listed a w I hr, fun i hi => ?_⟩
    refine wpOp_mono (fun a' w' I' => ih _ a' w' I' ?_) (plan_stepG hp hsame hsz hW hob listed a w I i hi)
    obtain ⟨h0, o, ho, hall⟩ := mem_ready.1 hi
    have hil : i < listed.size := by
      rw [I.size]
      have : i < l.toArray.size := (Array.getElem?_eq_some_iff.1 ho).1
      simpa using this
    have := unlisted_set hil (by rw [getD_same hil false true]; exact h0)
    omega

theorem wp_region_planG {id : Nat} {a : Act} {w : World} (eff : List Nat) (stg : List (List Nat)) (last : Nat) (trs : List (Nat × Nat × Nat)) (Ws : List World) (vs : List Value) {aF : Act} {wl : World} (hm : P.follows .mixedOrders = true) (hp : planG l eff stg last trs = true) (hF : putAll a l vs = aF)
    (hW0 : Ws[0]? = some w.drew) (hW : Ws.length = stg.length) (hl : Ws[last]? = some wl) (hob : OblsG P l aF Ws trs) (hend : Q .normal aF wl) : (Code.region id l.toArray true).wp P Q a w := by
  obtain ⟨h1, h2, h3⟩ := putAll_same l vs a
  rw [hF] at h1 h2 h3
  have h0 : stg.getD 0 [] = [] ∧ 0 < stg.length := by
    unfold planG at hp
    simp only [Bool.and_eq_true, decide_eq_true_eq, List.isEmpty_iff] at hp
    exact ⟨hp.1.2, hp.2⟩
  refine wp_region_any hm (wpAny_planG (a0 := a) hp h3 h2 hW hob wl hl hend _ _ _ _ ⟨by simp, ?_, h1.symm, h2.symm, ?_, fun _ _ => rfl, 0, hW0, h0.2, ?_⟩ ?_)
  · intro i j hi; rw [getD_rep] at hi; cases hi
  · intro i d hi; rw [getD_rep] at hi; cases hi
  · intro e he; rw [getD_rep, h0.1]; rfl
  · simp [unlisted]
end
#print axioms wp_region_planG
end Go.Own
