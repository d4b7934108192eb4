/-
  OwnRegionG's law where a slot of the region's own is read ahead of the operation that writes it ('x = append(x[:k], ..)'): such operations ('late') wait for all that read the slot, and these see what it held at the start. Of no program.
-/
import Derived.Test.YtahfoejffibahaaQOwnRegionG
set_option linter.unusedVariables false

namespace Go.Own
open Go.RowKit

def planL (l : List Oper) (eff : List Nat) (stg : List (List Nat)) (last : Nat) (trs : List (Nat × Nat × Nat)) (late : List Nat) : Bool :=
  Region.noSelect l.toArray &&
  (List.range l.length).all (fun i => match l[i]? with
    | some o => (o.looksAt l.toArray).all (fun d => (List.range l.length).all fun j => ((l[j]?).bind Oper.dst) != some d || (if late.contains j then direct l j i && j != i else direct l i j)) &&
      (List.range l.length).all (fun j => j == i || o.dst == none || ((l[j]?).bind Oper.dst) != o.dst) &&
      o.after.toList.all (fun e => !Region.binds .any e || decide (e.on < i)) &&
      (match o.guard with | none => true | some (j, _) => ((l[j]?).bind Oper.dst).isSome)
    | none => true) &&
  (List.range l.length).all (fun i => (List.range stg.length).all fun s => !allowedG l eff (stg.getD s []) i || trs.any fun t => t.1 == i && t.2.1 == s) &&
  eff.all (fun e => decide (e < l.length)) &&
  trs.all (fun t => decide (t.2.2 < stg.length) && if eff.contains t.1 then eff.all (fun e => (stg.getD t.2.2 []).contains e == ((stg.getD t.2.1 []).contains e || e == t.1)) else t.2.2 == t.2.1) &&
  (List.range stg.length).all (fun s => !eff.all (fun e => (stg.getD s []).contains e) || s == last) &&
  (stg.getD 0 []).isEmpty && decide (0 < stg.length)

/-- One operation's run: its operands as they are when it comes up (aR), its slot as it is in the end (aF). -/
def RunsL (P : Program) (l : List Oper) (aR aF : Act) (o : Oper) (w w' : World) : Prop :=
  (Region.wanted o (yielded l.toArray aR.tmps) = true ∧ ((execOp aR.eval o).run P w = .ok (.value (valOf aF o)) w' ∨ ((execOp aR.eval o).run P w = .ok .skip w' ∧ o.dst = none) ∨
    ∃ f args, (execOp aR.eval o).run P w = .ok (.enter f args) w ∧ Calls P f args w (fun e w'' => e = .returned (valOf aF o) ∧ w'' = w'))) ∨
  (Region.wanted o (yielded l.toArray aR.tmps) = false ∧ valOf aF o = undef ∧ w' = w)

theorem RunsL.value {P : Program} {l : List Oper} {aR aF : Act} {o : Oper} {w w' : World} {r : Result Next} (hg : o.guard = none) (h : (execOp aR.eval o).run P w = r) (h2 : r = .ok (.value (valOf aF o)) w') : RunsL P l aR aF o w w' :=
  .inl ⟨by simp [Region.wanted, hg], .inl (h.trans h2)⟩
theorem RunsL.skip {P : Program} {l : List Oper} {aR aF : Act} {o : Oper} {w w' : World} {r : Result Next} (hg : o.guard = none) (hd : o.dst = none) (h : (execOp aR.eval o).run P w = r) (h2 : r = .ok .skip w') : RunsL P l aR aF o w w' :=
  .inl ⟨by simp [Region.wanted, hg], .inr (.inl ⟨h.trans h2, hd⟩)⟩
theorem RunsL.append {P : Program} {l : List Oper} {aR aF : Act} {o : Oper} {w w1 : World} (hg : o.guard = none) (s x : Operand) (t u : TypeId) (hop : o.op = Op.call { callee := Callee.builtin Builtin.append, args := #[s, x], argTypes := #[t, u] })
    (v xv v' : Value) (hs : aR.eval s = v) (hx : aR.eval x = xv) (hrun : (Builtin.append_ #[t, u] o.type #[v, xv]).run P w = .ok v' w1) (h2 : valOf aF o = v') : RunsL P l aR aF o w w1 :=
  .inl ⟨by simp [Region.wanted, hg], .inl (by
    simp [execOp, hop, resolve, invoke, builtin, hs, hx, hrun, Result.andThen, h2])⟩

def putAllL (late : List Nat) : Nat → Act → List Oper → List Value → Act
  | k, a, o :: l, v :: vs => putAllL late (k + 1) (if late.contains k then a else a.put o.dst v) l vs
  | _, a, _, _ => a

theorem put_other (a : Act) (o : Option Tmp) (v : Value) (d : Nat) (h : o ≠ some d) : (a.put o v).tmps[d]? = a.tmps[d]? := by
  cases o with
  | none => rfl
  | some d' =>
    have : d' ≠ d := fun e => h (by rw [e])
    simp only [Act.put, Array.getElem?_setIfInBounds_ne this]

theorem putAllL_late (late : List Nat) : ∀ (l : List Oper) (vs : List Value) (k : Nat) (a : Act) (d : Nat), (∀ i : Nat, (l[i]?).bind Oper.dst = some d → late.contains (k + i) = true) → (putAllL late k a l vs).tmps[d]? = a.tmps[d]?
  | [], _, _, _, _, _ => rfl
  | _ :: _, [], _, _, _, _ => rfl
  | o :: l, v :: vs, k, a, d, h => by
    show (putAllL late (k + 1) _ l vs).tmps[d]? = _
    rw [putAllL_late late l vs (k + 1) _ d (fun i hi => by have := h (i + 1) (by simpa using hi); rwa [show k + (i + 1) = k + 1 + i from by omega] at this)]
    split
    · rfl
    · rename_i hk
      exact put_other _ _ _ _ fun e => hk (h 0 (by simpa using e))

theorem putAllL_early (late : List Nat) : ∀ (l : List Oper) (vs : List Value) (k : Nat) (a a' : Act) (d : Nat), a.tmps[d]? = a'.tmps[d]? → a.tmps.size = a'.tmps.size → (∀ i : Nat, (l[i]?).bind Oper.dst = some d → late.contains (k + i) = false) → (putAllL late k a l vs).tmps[d]? = (putAll a' l vs).tmps[d]?
  | [], _, _, _, _, _, h0, _, _ => h0
  | _ :: _, [], _, _, _, _, h0, _, _ => h0
  | o :: l, v :: vs, k, a, a', d, h0, hs, h => by
    show (putAllL late (k + 1) _ l vs).tmps[d]? = (putAll (a'.put o.dst v) l vs).tmps[d]?
    have hsz : ∀ b : Act, (b.put o.dst v).tmps.size = b.tmps.size := fun b => by cases o.dst <;> simp [Act.put]
    refine putAllL_early late l vs (k + 1) _ _ d ?_ ?_ (fun i hi => by have := h (i + 1) (by simpa using hi); rwa [show k + (i + 1) = k + 1 + i from by omega] at this)
    · by_cases hd : o.dst = some d
      · have := h 0 (by simpa using hd)
        rw [Nat.add_zero] at this
        rw [if_neg (by rw [this]; decide)]
        simp only [hd, Act.put, Array.getElem?_setIfInBounds, if_true, hs]
      · split
        · rw [put_other _ _ _ _ hd]; exact h0
        · rw [put_other _ _ _ _ hd, put_other _ _ _ _ hd]; exact h0
    · split
      · rw [hsz]; exact hs
      · rw [hsz, hsz]; exact hs

def OblsL (P : Program) (l : List Oper) (aR aF : Act) (Ws : List World) : List (Nat × Nat × Nat) → Prop
  | [] => True
  | (i, s, s') :: r => (∀ o w w', l[i]? = some o → Ws[s]? = some w → Ws[s']? = some w' → RunsL P l aR aF o w w') ∧ OblsL P l aR aF Ws r

theorem oblsL_nil {P : Program} {l : List Oper} {aR aF : Act} {Ws : List World} : OblsL P l aR aF Ws [] := trivial
theorem oblsL_cons {P : Program} {l : List Oper} {aR aF : Act} {Ws : List World} {i s s' : Nat} {r : List (Nat × Nat × Nat)} {o : Oper} {w w' : World} (ho : l[i]? = some o) (hw : Ws[s]? = some w) (hw' : Ws[s']? = some w')
    (h : RunsL P l aR aF o w w') (hr : OblsL P l aR aF Ws r) : OblsL P l aR aF Ws ((i, s, s') :: r) :=
  ⟨fun o1 w1 w1' h1 h2 h3 => by rw [ho] at h1; rw [hw] at h2; rw [hw'] at h3; cases h1; cases h2; cases h3; exact h, hr⟩
theorem oblsL_mem {P : Program} {l : List Oper} {aR aF : Act} {Ws : List World} : ∀ {trs : List (Nat × Nat × Nat)}, OblsL P l aR aF Ws trs → ∀ i s s', (i, s, s') ∈ trs → ∀ o w w', l[i]? = some o → Ws[s]? = some w → Ws[s']? = some w' → RunsL P l aR aF o w w'
  | [], _, _, _, _, h => by cases h
  | (j, t, t') :: r, ⟨h1, h2⟩, i, s, s', h => by
    rcases List.mem_cons.1 h with h | h
    · cases h; exact h1
    · exact oblsL_mem h2 i s s' h

section
variable {P : Program} {l : List Oper} {Q : Exit → Act → World → Prop} {eff : List Nat} {stg : List (List Nat)} {last : Nat} {trs : List (Nat × Nat × Nat)} {late : List Nat} {a0 aR aF : Act} {Ws : List World}

theorem plan_stepL (hR1 : ∀ d, (∀ i : Nat, (l[i]?).bind Oper.dst = some d → late.contains i = false) → aR.tmps[d]? = aF.tmps[d]?) (hR2 : ∀ d, (∀ i : Nat, (l[i]?).bind Oper.dst = some d → late.contains i = true) → aR.tmps[d]? = a0.tmps[d]?) (hp : planL l eff stg last trs late = true) (_hsame : ∀ d, (∀ i : Nat, (l[i]?).bind Oper.dst ≠ some d) → aF.tmps[d]? = a0.tmps[d]?) (_hsz : aF.tmps.size = a0.tmps.size) (hW : Ws.length = stg.length) (hob : OblsL P l aR aF Ws trs)
    (listed : Array Bool) (a : Act) (w : World) (I : PlanInvG l eff stg a0 aF Ws listed a w) (i : Nat) (hi : i ∈ Region.ready .any l.toArray listed) :
    wpOp P l.toArray Q i (PlanInvG l eff stg a0 aF Ws (listed.setIfInBounds i true)) a w := by
  obtain ⟨h0, o, ho, hall⟩ := mem_ready.1 hi
  have ho' : l[i]? = some o := by simpa using ho
  have hil : i < l.length := (List.getElem?_eq_some_iff.1 ho').1
  have hif : listed.getD i false = false := by rw [getD_same (by rw [I.size]; exact hil) false true]; exact h0
  unfold planL at hp
  simp only [Bool.and_eq_true] at hp
  obtain ⟨⟨⟨⟨⟨⟨⟨hsel, htxt⟩, hprs⟩, heff⟩, htrs⟩, hlast⟩, -⟩, -⟩ := hp
  have hi' := List.all_eq_true.1 htxt i (List.mem_range.2 hil)
  simp only [ho', Bool.and_eq_true] at hi'
  obtain ⟨⟨⟨hlook, hdst⟩, hon⟩, hgd⟩ := hi'
  have honce : ∀ (i1 i2 : Nat) (d : Tmp), (l[i1]?).bind Oper.dst = some d → (l[i2]?).bind Oper.dst = some d → i1 = i2 := by
    intro i1 i2 d e1 e2
    have l1 : i1 < l.length := by
      rcases Nat.lt_or_ge i1 l.length with h | h
      · exact h
      · rw [List.getElem?_eq_none h] at e1; cases e1
    have l2 : i2 < l.length := by
      rcases Nat.lt_or_ge i2 l.length with h | h
      · exact h
      · rw [List.getElem?_eq_none h] at e2; cases e2
    have h1 := List.all_eq_true.1 htxt i1 (List.mem_range.2 l1)
    rw [List.getElem?_eq_getElem l1] at h1 e1
    simp only [Bool.and_eq_true] at h1
    have h2 := List.all_eq_true.1 h1.1.1.2 i2 (List.mem_range.2 l2)
    rw [Option.bind_some] at e1
    simp only [Bool.or_eq_true, beq_iff_eq, bne_iff_ne, ne_eq] at h2
    rcases h2 with (h2 | h2) | h2
    · exact h2.symm
    · rw [e1] at h2; cases h2
    · exact absurd (e2.trans e1.symm) h2
  -- what the operation looks at holds what it holds in the end, or at the start
  have hread : ∀ d ∈ o.looksAt l.toArray, a.tmps[d]? = aR.tmps[d]? := by
    intro d hd
    have h1 := List.all_eq_true.1 hlook d hd
    by_cases hex : ∃ j : Nat, (l[j]?).bind Oper.dst = some d
    · obtain ⟨j, hj⟩ := hex
      have hjl : j < l.length := by
        rcases Nat.lt_or_ge j l.length with h | h
        · exact h
        · rw [List.getElem?_eq_none h] at hj; cases hj
      have h2 := List.all_eq_true.1 h1 j (List.mem_range.2 hjl)
      simp only [Bool.or_eq_true, bne_iff_ne, ne_eq] at h2
      rcases h2 with h2 | h2
      · exact absurd hj h2
      · by_cases hlt : late.contains j = true
        · rw [if_pos hlt] at h2
          simp only [Bool.and_eq_true, bne_iff_ne, ne_eq] at h2
          have hjf : listed.getD j false = false := by
            cases hb : listed.getD j false with
            | false => rfl
            | true =>
              have := I.closed j i hb h2.1
              rw [hif] at this; cases this
          rw [I.open_ d (fun i' hi' => by rw [honce i' j d hi' hj]; exact hjf), hR2 d (fun i' hi' => by rw [honce i' j d hi' hj]; exact hlt)]
        · rw [if_neg hlt] at h2
          rw [hR1 d (fun i' hi' => by rw [honce i' j d hi' hj]; simpa using hlt)]
          refine I.done j d ?_ hj
          unfold direct at h2
          simp only [ho', List.any_eq_true, Bool.and_eq_true, beq_iff_eq] at h2
          obtain ⟨e, he, hb, rfl⟩ := h2
          exact hall e (by simpa using he) hb
    · rw [I.open_ d (fun j hj => absurd ⟨j, hj⟩ hex), hR2 d (fun j hj => absurd ⟨j, hj⟩ hex)]
  have hev : ∀ x ∈ o.op.operands, a.eval x = aR.eval x := by
    intro x hx
    cases x with
    | tmp d =>
      have : d ∈ o.looksAt l.toArray := by
        unfold Oper.looksAt
        refine List.mem_append_left _ (List.mem_filterMap.2 ⟨.tmp d, ?_, rfl⟩)
        simpa using hx
      have := hread d this
      simp only [Act.eval, Array.getD_eq_getD_getElem?, this]
    | const v => rfl
    | global g => rfl
    | func f => rfl
  have hex : execOp a.eval o = execOp aR.eval o := execOp_congr o (fun cs b => Region.noSelect_spec hsel i o cs b (by simpa using ho')) hev
  have hwant : Region.wanted o (yielded l.toArray a.tmps) = Region.wanted o (yielded l.toArray aR.tmps) := by
    unfold Region.wanted
    cases hg : o.guard with
    | none => rfl
    | some gw =>
      obtain ⟨j, want⟩ := gw
      have : yielded l.toArray a.tmps j = yielded l.toArray aR.tmps j := by
        unfold yielded
        cases hd : (l.toArray[j]?).bind Oper.dst with
        | none => rfl
        | some d =>
          have : d ∈ o.looksAt l.toArray := by
            unfold Oper.looksAt
            refine List.mem_append_right _ ?_
            simp only [hg, hd]
            simp
          simp only [Option.bind_some, hread d this]
      simp only [this]
  obtain ⟨s, hs, hsl, hst⟩ := I.stage
  have hal : allowedG l eff (stg.getD s []) i = true := by
    unfold allowedG
    simp only [List.all_eq_true]
    intro e he
    have h1 := hst e he
    by_cases hc : (stg.getD s []).contains e = true
    · rw [if_pos hc]
      rw [hc] at h1
      simp only [Bool.and_eq_true, bne_iff_ne, ne_eq, Bool.not_eq_true']
      refine ⟨fun e1 => (by rw [e1, hif] at h1; cases h1), ?_⟩
      cases hr : reach l 3 e i with
      | false => rfl
      | true =>
        have := reach_listed I.closed 3 _ _ h1 hr
        rw [hif] at this; cases this
    · rw [if_neg hc]
      rw [Bool.not_eq_true] at hc
      rw [hc] at h1
      cases hr : reach l 3 i e with
      | false => rfl
      | true =>
        unfold reach at hr
        simp only [ho', List.any_eq_true, Bool.and_eq_true, Bool.or_eq_true, beq_iff_eq] at hr
        obtain ⟨x, hx, hb, hh⟩ := hr
        have hl := hall x (by simpa using hx) hb
        rcases hh with hh | hh
        · rw [hh] at hl; rw [hl] at h1; cases h1
        · have := reach_listed I.closed 2 _ _ hl hh
          rw [this] at h1; cases h1
  obtain ⟨s', hmem⟩ : ∃ s', (i, s, s') ∈ trs := by
    have h1 := List.all_eq_true.1 hprs i (List.mem_range.2 hil)
    have h2 := List.all_eq_true.1 h1 s (List.mem_range.2 hsl)
    rw [hal] at h2
    simp only [Bool.not_true, Bool.false_or, List.any_eq_true, Bool.and_eq_true, beq_iff_eq] at h2
    obtain ⟨⟨t1, t2, t3⟩, hm, e1, e2⟩ := h2
    simp only at e1 e2
    subst e1; subst e2
    exact ⟨t3, hm⟩
  have htr := List.all_eq_true.1 htrs _ hmem
  simp only [Bool.and_eq_true, decide_eq_true_eq] at htr
  obtain ⟨hs'l, hgo⟩ := htr
  obtain ⟨w', hw'⟩ : ∃ w', Ws[s']? = some w' := ⟨_, List.getElem?_eq_getElem (by rw [hW]; exact hs'l)⟩
  have hrun := oblsL_mem hob i s s' hmem o w w' ho' hs hw'
  have keep : ∀ v, (∀ d, o.dst = some d → d < a.tmps.size → some v = aF.tmps[d]?) → PlanInvG l eff stg a0 aF Ws (listed.setIfInBounds i true) (a.put o.dst v) w' := by
    intro v hv
    have hlis : ∀ j, (listed.setIfInBounds i true).getD j false = true → j = i ∨ listed.getD j false = true := by
      intro j hj
      by_cases hji : i = j
      · exact .inl hji.symm
      · rw [getD_set_ne false hji] at hj; exact .inr hj
    have hput : ∀ d, o.dst ≠ some d → (a.put o.dst v).tmps[d]? = a.tmps[d]? := by
      intro d hd
      cases hdo : o.dst with
      | none => rfl
      | some d' =>
        have : d' ≠ d := fun e => hd (by rw [hdo, e])
        simp only [Act.put, Array.getElem?_setIfInBounds_ne this]
    have hself : ∀ d, o.dst = some d → (a.put o.dst v).tmps[d]? = aF.tmps[d]? := by
      intro d hd
      simp only [hd, Act.put]
      rcases Nat.lt_or_ge d a.tmps.size with h | h
      · rw [Array.getElem?_setIfInBounds_self_of_lt h]; exact hv d hd h
      · rw [Array.getElem?_eq_none (by simpa using h), Array.getElem?_eq_none (by rw [← I.tsize]; exact h)]
    refine ⟨by simpa using I.size, ?_, ?_, ?_, ?_, ?_, ?_⟩
    · intro x y hx hd
      rcases hlis x hx with rfl | hx
      · unfold direct at hd
        simp only [ho', List.any_eq_true, Bool.and_eq_true, beq_iff_eq] at hd
        obtain ⟨e, he, hb, rfl⟩ := hd
        exact getD_set_true (hall e (by simpa using he) hb)
      · exact getD_set_true (I.closed x y hx hd)
    · cases o.dst <;> exact I.defers
    · cases hdo : o.dst with
      | none => exact I.tsize
      | some d => simpa [Act.put] using I.tsize
    · intro j d hj hd
      rcases hlis j hj with rfl | hj
      · rw [ho', Option.bind_some] at hd
        exact hself d hd
      · by_cases hod : o.dst = some d
        · exact hself d hod
        · rw [hput d hod]; exact I.done j d hj hd
    · intro d hd
      have hod : o.dst ≠ some d := fun e => by
        have h1 := hd i (by rw [ho', Option.bind_some, e])
        have : i < listed.size := by rw [I.size]; exact hil
        simp [this] at h1
      rw [hput d hod]
      refine I.open_ d fun j hj => ?_
      have h1 := hd j hj
      by_cases hji : i = j
      · subst hji; exact hif
      · rwa [getD_set_ne false hji] at h1
    · refine ⟨s', hw', hs'l, fun e he => ?_⟩
      by_cases hei : i = e
      · subst hei
        have hc : eff.contains i = true := by simpa using he
        rw [if_pos hc] at hgo
        have h1 := List.all_eq_true.1 hgo i he
        simp only [beq_self_eq_true, Bool.or_true, beq_iff_eq] at h1
        rw [h1]
        have : i < listed.size := by rw [I.size]; exact hil
        simp [this]
      · rw [getD_set_ne false hei, hst e he]
        by_cases hc : eff.contains i = true
        · rw [if_pos hc] at hgo
          have h1 := List.all_eq_true.1 hgo e he
          simp only [beq_iff_eq] at h1
          rw [h1]
          have : (e == i) = false := by simpa using fun h => hei h.symm
          rw [this, Bool.or_false]
        · rw [if_neg hc] at hgo
          rw [show s' = s from by simpa using hgo]
  unfold Go.wpOp
  simp only [ho, hwant]
  have hval : ∀ d, o.dst = some d → d < a.tmps.size → some (valOf aF o) = aF.tmps[d]? := by
    intro d hd hlt
    unfold valOf
    simp only [hd]
    rw [I.tsize] at hlt
    simp [hlt]
  rcases hrun with ⟨hwt, hr⟩ | ⟨hwt, hvu, rfl⟩
  · rw [if_pos hwt]
    refine .inl ?_
    unfold Oper.wp
    rw [hex]
    rcases hr with hr | ⟨hr, hdn⟩ | ⟨f, args, hr, hcl⟩
    · rw [hr]; exact keep _ hval
    · rw [hr]; exact keep _ (fun d hd => by rw [hdn] at hd; cases hd)
    · rw [hr, Oper.upon_enter]
      refine hcl.mono fun e w'' ⟨he, hw⟩ => ?_
      subst he
      subst hw
      exact keep _ hval
  · rw [if_neg (by rw [hwt]; decide)]
    have := keep (valOf aF o) hval
    rw [hvu] at this
    exact this


theorem wpAny_planL (hR1 : ∀ d, (∀ i : Nat, (l[i]?).bind Oper.dst = some d → late.contains i = false) → aR.tmps[d]? = aF.tmps[d]?) (hR2 : ∀ d, (∀ i : Nat, (l[i]?).bind Oper.dst = some d → late.contains i = true) → aR.tmps[d]? = a0.tmps[d]?) (hp : planL l eff stg last trs late = true) (hsame : ∀ d, (∀ i : Nat, (l[i]?).bind Oper.dst ≠ some d) → aF.tmps[d]? = a0.tmps[d]?) (hsz : aF.tmps.size = a0.tmps.size) (hW : Ws.length = stg.length) (hob : OblsL P l aR aF Ws trs) (wl : World) (hl : Ws[last]? = some wl)
    (hend : Q .normal aF wl) : ∀ (fuel : Nat) (listed : Array Bool) (a : Act) (w : World), PlanInvG l eff stg a0 aF Ws listed a w → unlisted listed ≤ fuel → wpAny P .any l.toArray Q fuel listed a w := by
  have full : ∀ (listed : Array Bool) (a : Act) (w : World), PlanInvG l eff stg a0 aF Ws listed a w → (∀ i, i < l.length → listed.getD i false = true) → Q .normal a w := by
    intro listed a w I hall
    have ha : a = aF := by
      have ht : a.tmps = aF.tmps := by
        apply Array.ext_getElem?
        intro d
        by_cases hex : ∃ j : Nat, (l[j]?).bind Oper.dst = some d
        · obtain ⟨j, hj⟩ := hex
          have hjl : j < l.length := by
            rcases Nat.lt_or_ge j l.length with h | h
            · exact h
            · rw [List.getElem?_eq_none h] at hj; cases hj
          exact I.done j d (hall j hjl) hj
        · rw [I.open_ d (fun j hj => absurd ⟨j, hj⟩ hex), hsame d (fun j hj => hex ⟨j, hj⟩)]
      obtain ⟨t1, d1⟩ := a
      obtain ⟨t2, d2⟩ := aF
      have hd : d1 = d2 := I.defers
      have ht' : t1 = t2 := ht
      rw [hd, ht']
    obtain ⟨s, hs, hsl, hst⟩ := I.stage
    have hse : s = last := by
      unfold planL at hp
      simp only [Bool.and_eq_true] at hp
      obtain ⟨⟨⟨⟨⟨⟨⟨_, _⟩, _⟩, heff⟩, _⟩, hlast⟩, -⟩, -⟩ := hp
      have h1 := List.all_eq_true.1 hlast s (List.mem_range.2 hsl)
      have h2 : eff.all (fun e => (stg.getD s []).contains e) = true := List.all_eq_true.2 fun e he => by
        have h3 := List.all_eq_true.1 heff e he
        rw [← hst e he]; exact hall e (by simpa using h3)
      rw [h2] at h1
      simpa using h1
    subst hse
    rw [hl] at hs
    cases hs
    rw [ha]; exact hend
  have hnone : ∀ (listed : Array Bool) (a : Act) (w : World), PlanInvG l eff stg a0 aF Ws listed a w → Region.ready .any l.toArray listed = [] → Q .normal a w := by
    intro listed a w I hr
    have hall : ∀ n i, i < n → i < l.length → listed.getD i false = true := by
      intro n
      induction n with
      | zero => intro i h; omega
      | succ n ih =>
        intro i hin hil
        cases hb : listed.getD i false with
        | true => rfl
        | false =>
          exfalso
          have hm : i ∈ Region.ready .any l.toArray listed := by
            refine mem_ready.2 ⟨by rw [getD_same (by rw [I.size]; exact hil) true false]; exact hb, l[i], by simp [hil], fun e he hbd => ?_⟩
            unfold planL at hp
            simp only [Bool.and_eq_true] at hp
            have hi' := List.all_eq_true.1 hp.1.1.1.1.1.1.2 i (List.mem_range.2 hil)
            rw [List.getElem?_eq_getElem hil] at hi'
            simp only [Bool.and_eq_true] at hi'
            have h1 := List.all_eq_true.1 hi'.1.2 e (by simpa using he)
            simp only [hbd, Bool.not_true, Bool.false_or, decide_eq_true_eq] at h1
            exact ih e.on (by omega) (by omega)
          rw [hr] at hm; cases hm
    exact full listed a w I fun i hi => hall l.length i hi hi
  intro fuel
  induction fuel with
  | zero =>
    intro listed a w I hu
    have hall : ∀ i, i < l.length → listed.getD i false = true := by
      intro i hi
      cases hb : listed.getD i false with
      | true => rfl
      | false =>
        have := unlisted_set (i := i) (by rw [I.size]; exact hi) hb
        omega
    refine ⟨?_, full listed a w I hall⟩
    cases hr : Region.ready .any l.toArray listed with
    | nil => rfl
    | cons i r =>
      exfalso
      obtain ⟨h0, o, ho, _⟩ := mem_ready.1 (hr ▸ List.mem_cons_self : i ∈ Region.ready .any l.toArray listed)
      have hil : i < l.length := by
        have : i < l.toArray.size := (Array.getElem?_eq_some_iff.1 ho).1
        simpa using this
      have h1 := hall i hil
      rw [getD_same (by rw [I.size]; exact hil) false true, h0] at h1
      cases h1
  | succ n ih =>
    intro listed a w I hu
    refine ⟨fun hr => hnone listed a w I hr, fun i hi => ?_⟩
    refine wpOp_mono (fun a' w' I' => ih _ a' w' I' ?_) (plan_stepL hR1 hR2 hp hsame hsz hW hob listed a w I i hi)
    obtain ⟨h0, o, ho, hall⟩ := mem_ready.1 hi
    have hil : i < listed.size := by
      rw [I.size]
      have : i < l.toArray.size := (Array.getElem?_eq_some_iff.1 ho).1
      simpa using this
    have := unlisted_set hil (by rw [getD_same hil false true]; exact h0)
    omega

theorem wp_region_planL {id : Nat} {a : Act} {w : World} (eff : List Nat) (stg : List (List Nat)) (last : Nat) (trs : List (Nat × Nat × Nat)) (late : List Nat) (Ws : List World) (vs : List Value) {aR aF : Act} {wl : World} (hm : P.follows .mixedOrders = true) (hp : planL l eff stg last trs late = true) (hF : putAll a l vs = aF) (hR : putAllL late 0 a l vs = aR)
    (hW0 : Ws[0]? = some w.drew) (hW : Ws.length = stg.length) (hl : Ws[last]? = some wl) (hob : OblsL P l aR aF Ws trs) (hend : Q .normal aF wl) : (Code.region id l.toArray true).wp P Q a w := by
  obtain ⟨h1, h2, h3⟩ := putAll_same l vs a
  have hr1 := fun d hd => putAllL_early late l vs 0 a a d (by rfl) (by rfl) hd
  have hr2 := fun d hd => putAllL_late late l vs 0 a d hd
  rw [hF] at h1 h2 h3
  simp only [hF, hR] at hr1
  simp only [hR] at hr2
  have h0 : stg.getD 0 [] = [] ∧ 0 < stg.length := by
    unfold planL at hp
    simp only [Bool.and_eq_true, decide_eq_true_eq, List.isEmpty_iff] at hp
    exact ⟨hp.1.2, hp.2⟩
  refine wp_region_any hm (wpAny_planL (a0 := a) (fun d hd => hr1 d (by simpa using hd)) (fun d hd => hr2 d (by simpa using hd)) hp h3 h2 hW hob wl hl hend _ _ _ _ ⟨by simp, ?_, h1.symm, h2.symm, ?_, fun _ _ => rfl, 0, hW0, h0.2, ?_⟩ ?_)
  · intro i j hi; rw [getD_rep] at hi; cases hi
  · intro i d hi; rw [getD_rep] at hi; cases hi
  · intro e he; rw [getD_rep, h0.1]; rfl
  · simp [unlisted]
end
#print axioms wp_region_planL
end Go.Own
