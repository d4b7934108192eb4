/-
  OWN, REGIONS: a region that draws its order, by a plan: what each slot holds at the end, through which worlds the operations that turn memory lead, and each operation's run once, at each world at which it may come up. Of no program.
-/
import Derived.Test.YtipjapijadgihaaGreatDoorQOwnMap
set_option linter.unusedVariables false

namespace Go.Own
open Go.RowKit

/-- Operation i waits for operation j. -/
def direct (l : List Oper) (i j : Nat) : Bool :=
  match l[i]? with
  | some o => o.after.toList.any fun e => Region.binds .any e && e.on == j
  | none => false

def reach (l : List Oper) : Nat → Nat → Nat → Bool
  | 0, _, _ => false
  | n + 1, i, j => match l[i]? with
    | some o => o.after.toList.any fun e => Region.binds .any e && (e.on == j || reach l n e.on j)
    | none => false

/-- Operation i may come up where the first s of the operations that turn memory are done. -/
def allowed (l : List Oper) (eff : List Nat) (i s : Nat) : Bool :=
  (eff.drop s).all (fun e => !reach l 3 i e) && (eff.take s).all (fun e => e != i && !reach l 3 e i)

/-- What the plan asks of the region's text: each operand is no slot of the region's own, or of one for which the operation waits; each slot is written once; no 'select'; the operations that turn memory wait each for the one before; the pairs are all that may come up. -/
def planB (l : List Oper) (eff : List Nat) (prs : List (Nat × Nat)) : Bool :=
  Region.noSelect l.toArray &&
  (List.range l.length).all (fun i => match l[i]? with
    | some o => (o.looksAt l.toArray).all (fun d => (List.range l.length).all fun j => ((l[j]?).bind Oper.dst) != some d || direct l i j) &&
      (List.range l.length).all (fun j => j == i || o.dst == none || ((l[j]?).bind Oper.dst) != o.dst) &&
      o.after.toList.all (fun e => !Region.binds .any e || decide (e.on < i)) &&
      (match o.guard with | none => true | some (j, _) => ((l[j]?).bind Oper.dst).isSome)
    | none => true) &&
  (List.range eff.length).all (fun k => k == 0 || reach l 3 (eff.getD k 0) (eff.getD (k - 1) 0)) &&
  eff.all (fun e => decide (e < l.length)) &&
  (List.range l.length).all (fun i => (List.range (eff.length + 1)).all fun s => !allowed l eff i s || prs.contains (i, s))

def putAll (a : Act) : List Oper → List Value → Act
  | o :: l, v :: vs => putAll (a.put o.dst v) l vs
  | _, _ => a

def valOf (a : Act) (o : Oper) : Value := match o.dst with | some d => a.tmps.getD d undef | none => undef

/-- One operation's run, once all its operands hold what they hold in the end. -/
def Runs (P : Program) (l : List Oper) (aF : Act) (o : Oper) (w w' : World) : Prop :=
  (Region.wanted o (yielded l.toArray aF.tmps) = true ∧ ((execOp aF.eval o).run P w = .ok (.value (valOf aF o)) w' ∨ ((execOp aF.eval o).run P w = .ok .skip w' ∧ o.dst = none) ∨
    ∃ f args, (execOp aF.eval o).run P w = .ok (.enter f args) w ∧ Calls P f args w (fun e w'' => e = .returned (valOf aF o) ∧ w'' = w'))) ∨
  (Region.wanted o (yielded l.toArray aF.tmps) = false ∧ valOf aF o = undef ∧ w' = w)

def Obls (P : Program) (l : List Oper) (aF : Act) (Ws : List World) (eff : List Nat) : List (Nat × Nat) → Prop
  | [] => True
  | (i, s) :: r => (∀ o w w', l[i]? = some o → Ws[s]? = some w → Ws[if eff.contains i then s + 1 else s]? = some w' → Runs P l aF o w w') ∧ Obls P l aF Ws eff r

theorem obls_nil {P : Program} {l : List Oper} {aF : Act} {Ws : List World} {eff : List Nat} : Obls P l aF Ws eff [] := trivial
theorem obls_cons {P : Program} {l : List Oper} {aF : Act} {Ws : List World} {eff : List Nat} {i s : Nat} {r : List (Nat × Nat)} {o : Oper} {w w' : World} (ho : l[i]? = some o) (hw : Ws[s]? = some w) (hw' : Ws[if eff.contains i then s + 1 else s]? = some w')
    (h : Runs P l aF o w w') (hr : Obls P l aF Ws eff r) : Obls P l aF Ws eff ((i, s) :: r) :=
  ⟨fun o1 w1 w1' h1 h2 h3 => by rw [ho] at h1; rw [hw] at h2; rw [hw'] at h3; cases h1; cases h2; cases h3; exact h, hr⟩
theorem obls_mem {P : Program} {l : List Oper} {aF : Act} {Ws : List World} {eff : List Nat} : ∀ {prs : List (Nat × Nat)}, Obls P l aF Ws eff prs → ∀ i s, (i, s) ∈ prs → ∀ o w w', l[i]? = some o → Ws[s]? = some w → Ws[if eff.contains i then s + 1 else s]? = some w' → Runs P l aF o w w'
  | [], _, _, _, h => by cases h
  | (j, t) :: r, ⟨h1, h2⟩, i, s, h => by
    rcases List.mem_cons.1 h with h | h
    · cases h; exact h1
    · exact obls_mem h2 i s h

/-- A run that yields; one that only turns memory; an append by the equation of its run. -/
theorem Runs.value {P : Program} {l : List Oper} {aF : Act} {o : Oper} {w w' : World} {r : Result Next} (hg : o.guard = none) (h : (execOp aF.eval o).run P w = r) (h2 : r = .ok (.value (valOf aF o)) w') : Runs P l aF o w w' :=
  .inl ⟨by simp [Region.wanted, hg], .inl (h.trans h2)⟩
theorem Runs.skip {P : Program} {l : List Oper} {aF : Act} {o : Oper} {w w' : World} {r : Result Next} (hg : o.guard = none) (hd : o.dst = none) (h : (execOp aF.eval o).run P w = r) (h2 : r = .ok .skip w') : Runs P l aF o w w' :=
  .inl ⟨by simp [Region.wanted, hg], .inr (.inl ⟨h.trans h2, hd⟩)⟩
theorem Runs.append {P : Program} {l : List Oper} {aF : Act} {o : Oper} {w w1 : World} (hg : o.guard = none) (s x : Operand) (t u : TypeId) (hop : o.op = Op.call { callee := Callee.builtin Builtin.append, args := #[s, x], argTypes := #[t, u] })
    (v xv v' : Value) (hs : aF.eval s = v) (hx : aF.eval x = xv) (hrun : (Builtin.append_ #[t, u] o.type #[v, xv]).run P w = .ok v' w1) (h2 : valOf aF o = v') : Runs P l aF o w w1 :=
  .inl ⟨by simp [Region.wanted, hg], .inl (by
    simp [execOp, hop, resolve, invoke, builtin, hs, hx, hrun, Result.andThen, h2])⟩
theorem Runs.guarded {P : Program} {l : List Oper} {aF : Act} {o : Oper} {w w' : World} {r : Result Next} (hw : Region.wanted o (yielded l.toArray aF.tmps) = true) (h : (execOp aF.eval o).run P w = r) (h2 : r = .ok (.value (valOf aF o)) w') : Runs P l aF o w w' :=
  .inl ⟨hw, .inl (h.trans h2)⟩
/-- A call that ends in a world that is known ahead. -/
theorem Runs.call {P : Program} {l : List Oper} {aF : Act} {o : Oper} {w w' : World} {r : Result Next} {f : FuncId} {args : Array Value} {v : Value} (hg : o.guard = none) (h : (execOp aF.eval o).run P w = r) (h2 : r = .ok (.enter f args) w)
    (hc : Calls P f args w (fun e w'' => e = .returned v ∧ w'' = w')) (hv : valOf aF o = v) : Runs P l aF o w w' :=
  .inl ⟨by simp [Region.wanted, hg], .inr (.inr ⟨f, args, h.trans h2, by rw [hv]; exact hc⟩)⟩
theorem Runs.unwanted {P : Program} {l : List Oper} {aF : Act} {o : Oper} {w : World} (hw : Region.wanted o (yielded l.toArray aF.tmps) = false) (h : valOf aF o = undef) : Runs P l aF o w w :=
  .inr ⟨hw, h, rfl⟩

theorem reach_listed {l : List Oper} {listed : Array Bool} (hc : ∀ i j, listed.getD i false = true → direct l i j = true → listed.getD j false = true) :
    ∀ n i j, listed.getD i false = true → reach l n i j = true → listed.getD j false = true := by
  intro n
  induction n with
  | zero => intro i j _ h; cases h
  | succ n ih =>
    intro i j hi h
    unfold reach at h
    cases ho : l[i]? with
    | none => simp [ho] at h
    | some o =>
      simp only [ho, List.any_eq_true, Bool.and_eq_true, Bool.or_eq_true, beq_iff_eq] at h
      obtain ⟨e, he, hb, hh⟩ := h
      have hl : listed.getD e.on false = true := hc i e.on hi (by
        unfold direct
        simp only [ho, List.any_eq_true, Bool.and_eq_true, beq_iff_eq]
        exact ⟨e, he, hb, rfl⟩)
      rcases hh with hh | hh
      · rw [← hh]; exact hl
      · exact ih e.on j hl hh

section
variable {P : Program} {l : List Oper} {Q : Exit → Act → World → Prop} {eff : List Nat} {prs : List (Nat × Nat)} {a0 aF : Act} {Ws : List World}

structure PlanInv (l : List Oper) (eff : List Nat) (a0 aF : Act) (Ws : List World) (listed : Array Bool) (a : Act) (w : World) : Prop where
  size : listed.size = l.length
  closed : ∀ i j, listed.getD i false = true → direct l i j = true → listed.getD j false = true
  defers : a.defers = aF.defers
  tsize : a.tmps.size = aF.tmps.size
  done : ∀ i d, listed.getD i false = true → (l[i]?).bind Oper.dst = some d → a.tmps[d]? = aF.tmps[d]?
  open_ : ∀ d, (∀ i : Nat, (l[i]?).bind Oper.dst = some d → listed.getD i false = false) → a.tmps[d]? = a0.tmps[d]?
  stage : ∃ s, Ws[s]? = some w ∧ s ≤ eff.length ∧ (∀ e ∈ eff.take s, listed.getD e false = true) ∧ (∀ e ∈ eff.drop s, listed.getD e false = false)

theorem getD_same {listed : Array Bool} {i : Nat} (h : i < listed.size) (d d' : Bool) : listed.getD i d = listed.getD i d' := by
  simp [h]

theorem plan_step (hp : planB l eff prs = true) (hsame : ∀ d, (∀ i : Nat, (l[i]?).bind Oper.dst ≠ some d) → aF.tmps[d]? = a0.tmps[d]?) (_hsz : aF.tmps.size = a0.tmps.size) (hW : Ws.length = eff.length + 1) (hob : Obls P l aF Ws eff prs)
    (listed : Array Bool) (a : Act) (w : World) (I : PlanInv l eff a0 aF Ws listed a w) (i : Nat) (hi : i ∈ Region.ready .any l.toArray listed) :
    wpOp P l.toArray Q i (PlanInv l eff a0 aF Ws (listed.setIfInBounds i true)) a w := by
  obtain ⟨h0, o, ho, hall⟩ := mem_ready.1 hi
  have ho' : l[i]? = some o := by simpa using ho
  have hil : i < l.length := (List.getElem?_eq_some_iff.1 ho').1
  have hif : listed.getD i false = false := by rw [getD_same (by rw [I.size]; exact hil) false true]; exact h0
  unfold planB at hp
  simp only [Bool.and_eq_true] at hp
  obtain ⟨⟨⟨⟨hsel, htxt⟩, hchain⟩, heff⟩, hprs⟩ := hp
  have hi' := List.all_eq_true.1 htxt i (List.mem_range.2 hil)
  simp only [ho', Bool.and_eq_true] at hi'
  obtain ⟨⟨⟨hlook, hdst⟩, hon⟩, hgd⟩ := hi'
  -- what the operation looks at holds what it holds in the end
  have hread : ∀ d ∈ o.looksAt l.toArray, a.tmps[d]? = aF.tmps[d]? := by
    intro d hd
    have h1 := List.all_eq_true.1 hlook d hd
    by_cases hex : ∃ j : Nat, (l[j]?).bind Oper.dst = some d
    · obtain ⟨j, hj⟩ := hex
      have hjl : j < l.length := by
        rcases Nat.lt_or_ge j l.length with h | h
        · exact h
        · rw [List.getElem?_eq_none h] at hj; cases hj
      have h2 := List.all_eq_true.1 h1 j (List.mem_range.2 hjl)
      simp only [Bool.or_eq_true, bne_iff_ne, ne_eq] at h2
      rcases h2 with h2 | h2
      · exact absurd hj h2
      · refine I.done j d ?_ hj
        unfold direct at h2
        simp only [ho', List.any_eq_true, Bool.and_eq_true, beq_iff_eq] at h2
        obtain ⟨e, he, hb, rfl⟩ := h2
        exact hall e (by simpa using he) hb
    · rw [I.open_ d (fun j hj => absurd ⟨j, hj⟩ hex), hsame d (fun j hj => hex ⟨j, hj⟩)]
  have hev : ∀ x ∈ o.op.operands, a.eval x = aF.eval x := by
    intro x hx
    cases x with
    | tmp d =>
      have : d ∈ o.looksAt l.toArray := by
        unfold Oper.looksAt
        refine List.mem_append_left _ (List.mem_filterMap.2 ⟨.tmp d, ?_, rfl⟩)
        simpa using hx
      have := hread d this
      simp only [Act.eval, Array.getD_eq_getD_getElem?, this]
    | const v => rfl
    | global g => rfl
    | func f => rfl
  have hex : execOp a.eval o = execOp aF.eval o := execOp_congr o (fun cs b => Region.noSelect_spec hsel i o cs b (by simpa using ho')) hev
  have hwant : Region.wanted o (yielded l.toArray a.tmps) = Region.wanted o (yielded l.toArray aF.tmps) := by
    unfold Region.wanted
    cases hg : o.guard with
    | none => rfl
    | some gw =>
      obtain ⟨j, want⟩ := gw
      have : yielded l.toArray a.tmps j = yielded l.toArray aF.tmps j := by
        unfold yielded
        cases hd : (l.toArray[j]?).bind Oper.dst with
        | none => rfl
        | some d =>
          have : d ∈ o.looksAt l.toArray := by
            unfold Oper.looksAt
            refine List.mem_append_right _ ?_
            simp only [hg, hd]
            simp
          simp only [Option.bind_some, hread d this]
      simp only [this]
  obtain ⟨s, hs, hsl, htake, hdrop⟩ := I.stage
  -- it may come up here
  have hal : allowed l eff i s = true := by
    unfold allowed
    simp only [Bool.and_eq_true, List.all_eq_true, Bool.not_eq_true', bne_iff_ne, ne_eq]
    refine ⟨fun e he => ?_, fun e he => ⟨fun e1 => ?_, ?_⟩⟩
    · cases hr : reach l 3 i e with
      | false => rfl
      | true =>
        have h1 := hdrop e he
        unfold reach at hr
        simp only [ho', List.any_eq_true, Bool.and_eq_true, Bool.or_eq_true, beq_iff_eq] at hr
        obtain ⟨x, hx, hb, hh⟩ := hr
        have hl := hall x (by simpa using hx) hb
        rcases hh with hh | hh
        · rw [hh] at hl; rw [hl] at h1; cases h1
        · have := reach_listed I.closed 2 _ _ hl hh
          rw [this] at h1; cases h1
    · have := htake e he
      rw [e1, hif] at this; cases this
    · cases hr : reach l 3 e i with
      | false => rfl
      | true =>
        have := reach_listed I.closed 3 _ _ (htake e he) hr
        rw [hif] at this; cases this
  have hmem : (i, s) ∈ prs := by
    have h1 := List.all_eq_true.1 hprs i (List.mem_range.2 hil)
    have h2 := List.all_eq_true.1 h1 s (List.mem_range.2 (by omega))
    simpa [hal] using h2
  -- an operation that turns memory is the next of them
  have hnext : eff.contains i = true → s < eff.length ∧ eff.getD s 0 = i := by
    intro hc
    have hm : i ∈ eff := by simpa using hc
    obtain ⟨k, hk, hki⟩ := List.mem_iff_getElem.1 hm
    have hks : s ≤ k := by
      rcases Nat.lt_or_ge k s with h | h
      · have : i ∈ eff.take s := by rw [← hki]; exact List.mem_take_iff_getElem.2 ⟨k, by omega, rfl⟩
        have := htake i this
        rw [hif] at this; cases this
      · exact h
    rcases Nat.lt_or_ge s k with h | h
    · exfalso
      have h1 := List.all_eq_true.1 hchain k (List.mem_range.2 hk)
      simp only [Bool.or_eq_true, beq_iff_eq] at h1
      have hg : eff.getD k 0 = i := by simp [List.getD, hk, hki]
      have h2 : reach l 3 i (eff.getD (k - 1) 0) = true := by
        rcases h1 with h1 | h1
        · omega
        · rw [hg] at h1; exact h1
      have hk1 : k - 1 < eff.length := by omega
      have h3 : eff.getD (k - 1) 0 ∈ eff.drop s := by
        have : eff.getD (k - 1) 0 = eff[k - 1] := by simp [List.getD, hk1]
        rw [this]
        exact List.mem_drop_iff_getElem.2 ⟨k - 1 - s, by omega, by congr 1; omega⟩
      have h4 : allowed l eff i s = true := hal
      unfold allowed at h4
      simp only [Bool.and_eq_true] at h4
      have h5 := List.all_eq_true.1 h4.1 _ h3
      rw [h2] at h5; cases h5
    · obtain rfl : k = s := by omega
      exact ⟨hk, by simp [List.getD, hk, hki]⟩
  obtain ⟨w', hw'⟩ : ∃ w', Ws[if eff.contains i then s + 1 else s]? = some w' := by
    have : (if eff.contains i then s + 1 else s) < Ws.length := by
      by_cases hc : eff.contains i = true
      · have := (hnext hc).1; rw [if_pos hc, hW]; omega
      · rw [if_neg hc, hW]; omega
    exact ⟨_, List.getElem?_eq_getElem this⟩
  have hrun := obls_mem hob i s hmem o w w' ho' hs hw'
  have keep : ∀ v, (∀ d, o.dst = some d → d < a.tmps.size → some v = aF.tmps[d]?) → PlanInv l eff a0 aF Ws (listed.setIfInBounds i true) (a.put o.dst v) w' := by
    intro v hv
    have hlis : ∀ j, (listed.setIfInBounds i true).getD j false = true → j = i ∨ listed.getD j false = true := by
      intro j hj
      by_cases hji : i = j
      · exact .inl hji.symm
      · rw [getD_set_ne false hji] at hj; exact .inr hj
    have hput : ∀ d, o.dst ≠ some d → (a.put o.dst v).tmps[d]? = a.tmps[d]? := by
      intro d hd
      cases hdo : o.dst with
      | none => rfl
      | some d' =>
        have : d' ≠ d := fun e => hd (by rw [hdo, e])
        simp only [Act.put, Array.getElem?_setIfInBounds_ne this]
    have hself : ∀ d, o.dst = some d → (a.put o.dst v).tmps[d]? = aF.tmps[d]? := by
      intro d hd
      simp only [hd, Act.put]
      rcases Nat.lt_or_ge d a.tmps.size with h | h
      · rw [Array.getElem?_setIfInBounds_self_of_lt h]; exact hv d hd h
      · rw [Array.getElem?_eq_none (by simpa using h), Array.getElem?_eq_none (by rw [← I.tsize]; exact h)]
    refine ⟨by simpa using I.size, ?_, ?_, ?_, ?_, ?_, ?_⟩
    · intro x y hx hd
      rcases hlis x hx with rfl | hx
      · unfold direct at hd
        simp only [ho', List.any_eq_true, Bool.and_eq_true, beq_iff_eq] at hd
        obtain ⟨e, he, hb, rfl⟩ := hd
        exact getD_set_true (hall e (by simpa using he) hb)
      · exact getD_set_true (I.closed x y hx hd)
    · cases o.dst <;> exact I.defers
    · cases hdo : o.dst with
      | none => exact I.tsize
      | some d => simpa [Act.put] using I.tsize
    · intro j d hj hd
      rcases hlis j hj with rfl | hj
      · rw [ho', Option.bind_some] at hd
        exact hself d hd
      · by_cases hod : o.dst = some d
        · exact hself d hod
        · rw [hput d hod]; exact I.done j d hj hd
    · intro d hd
      have hod : o.dst ≠ some d := fun e => by
        have h1 := hd i (by rw [ho', Option.bind_some, e])
        have : i < listed.size := by rw [I.size]; exact hil
        simp [this] at h1
      rw [hput d hod]
      refine I.open_ d fun j hj => ?_
      have h1 := hd j hj
      by_cases hji : i = j
      · subst hji; exact hif
      · rwa [getD_set_ne false hji] at h1
    · by_cases hc : eff.contains i = true
      · obtain ⟨hlt, hgi⟩ := hnext hc
        refine ⟨s + 1, by rw [if_pos hc] at hw'; exact hw', by omega, fun e he => ?_, fun e he => ?_⟩
        · obtain ⟨k, hk, rfl⟩ := List.mem_take_iff_getElem.1 he
          rcases Nat.lt_or_ge k s with h | h
          · exact getD_set_true (htake _ (List.mem_take_iff_getElem.2 ⟨k, by omega, rfl⟩))
          · obtain rfl : k = s := by omega
            have : eff[k] = i := by rw [← hgi]; simp [List.getD, hlt]
            rw [this]
            have : i < listed.size := by rw [I.size]; exact hil
            simp [this]
        · obtain ⟨k, hk, rfl⟩ := List.mem_drop_iff_getElem.1 he
          have h1 : listed.getD eff[s + 1 + k] false = false := hdrop _ (List.mem_drop_iff_getElem.2 ⟨k + 1, by omega, by congr 1; omega⟩)
          have hne : i ≠ eff[s + 1 + k] := by
            intro e
            -- two places of one number: the later one waits for the one before it, which is done or is it
            have hkk : s + 1 + k < eff.length := by omega
            have key : ∀ m, s < m → m < eff.length → eff.getD m 0 ≠ i := by
              intro m hm hml e2
              have h1 := List.all_eq_true.1 hchain m (List.mem_range.2 hml)
              simp only [Bool.or_eq_true, beq_iff_eq] at h1
              have h2 : reach l 3 i (eff.getD (m - 1) 0) = true := by
                rcases h1 with h1 | h1
                · omega
                · rw [e2] at h1; exact h1
              have hm1 : m - 1 < eff.length := by omega
              have h3 : eff.getD (m - 1) 0 ∈ eff.drop s := by
                have : eff.getD (m - 1) 0 = eff[m - 1] := by simp [List.getD, hm1]
                rw [this]
                exact List.mem_drop_iff_getElem.2 ⟨m - 1 - s, by omega, by congr 1; omega⟩
              have h4 : allowed l eff i s = true := hal
              unfold allowed at h4
              simp only [Bool.and_eq_true] at h4
              have h5 := List.all_eq_true.1 h4.1 _ h3
              rw [h2] at h5; cases h5
            exact key (s + 1 + k) (by omega) hkk (by simp [List.getD, hkk]; exact e.symm)
          rw [getD_set_ne false hne]
          exact h1
      · refine ⟨s, by rw [if_neg hc] at hw'; exact hw', hsl, fun e he => getD_set_true (htake e he), fun e he => ?_⟩
        have hne : i ≠ e := fun e1 => by
          subst e1
          exact hc (by simpa using List.mem_of_mem_drop he)
        rw [getD_set_ne false hne]; exact hdrop e he
  unfold Go.wpOp
  simp only [ho, hwant]
  have hval : ∀ d, o.dst = some d → d < a.tmps.size → some (valOf aF o) = aF.tmps[d]? := by
    intro d hd hlt
    unfold valOf
    simp only [hd]
    rw [I.tsize] at hlt
    simp [hlt]
  rcases hrun with ⟨hwt, hr⟩ | ⟨hwt, hvu, rfl⟩
  · rw [if_pos hwt]
    refine .inl ?_
    unfold Oper.wp
    rw [hex]
    rcases hr with hr | ⟨hr, hdn⟩ | ⟨f, args, hr, hcl⟩
    · rw [hr]; exact keep _ hval
    · rw [hr]; exact keep _ (fun d hd => by rw [hdn] at hd; cases hd)
    · rw [hr, Oper.upon_enter]
      refine hcl.mono fun e w'' ⟨he, hw⟩ => ?_
      subst he
      subst hw
      exact keep _ hval
  · rw [if_neg (by rw [hwt]; decide)]
    have := keep (valOf aF o) hval
    rw [hvu] at this
    exact this

def unlisted (listed : Array Bool) : Nat := (listed.toList.filter (fun b => !b)).length

theorem unlisted_set {listed : Array Bool} {i : Nat} (hi : i < listed.size) (h : listed.getD i false = false) : unlisted (listed.setIfInBounds i true) + 1 = unlisted listed := by
  unfold unlisted
  rw [Array.toList_setIfInBounds]
  have hv : listed.toList[i]? = some false := by
    rw [Array.getElem?_toList, Array.getElem?_eq_getElem hi]
    congr 1
    simpa [hi] using h
  generalize listed.toList = L at hv
  clear h hi
  induction L generalizing i with
  | nil => simp at hv
  | cons b L ih =>
    cases i with
    | zero => simp at hv; subst hv; simp
    | succ i =>
      simp only [List.set_cons_succ, List.filter_cons]
      have := ih (i := i) (by simpa using hv)
      split
      · simp only [List.length_cons]; omega
      · exact this

theorem wpAny_plan (hp : planB l eff prs = true) (hsame : ∀ d, (∀ i : Nat, (l[i]?).bind Oper.dst ≠ some d) → aF.tmps[d]? = a0.tmps[d]?) (hsz : aF.tmps.size = a0.tmps.size) (hW : Ws.length = eff.length + 1) (hob : Obls P l aF Ws eff prs) (wl : World) (hl : Ws[eff.length]? = some wl)
    (hend : Q .normal aF wl) : ∀ (fuel : Nat) (listed : Array Bool) (a : Act) (w : World), PlanInv l eff a0 aF Ws listed a w → unlisted listed ≤ fuel → wpAny P .any l.toArray Q fuel listed a w := by
  have full : ∀ (listed : Array Bool) (a : Act) (w : World), PlanInv l eff a0 aF Ws listed a w → (∀ i, i < l.length → listed.getD i false = true) → Q .normal a w := by
    intro listed a w I hall
    have ha : a = aF := by
      have ht : a.tmps = aF.tmps := by
        apply Array.ext_getElem?
        intro d
        by_cases hex : ∃ j : Nat, (l[j]?).bind Oper.dst = some d
        · obtain ⟨j, hj⟩ := hex
          have hjl : j < l.length := by
            rcases Nat.lt_or_ge j l.length with h | h
            · exact h
            · rw [List.getElem?_eq_none h] at hj; cases hj
          exact I.done j d (hall j hjl) hj
        · rw [I.open_ d (fun j hj => absurd ⟨j, hj⟩ hex), hsame d (fun j hj => hex ⟨j, hj⟩)]
      obtain ⟨t1, d1⟩ := a
      obtain ⟨t2, d2⟩ := aF
      have hd : d1 = d2 := I.defers
      have ht' : t1 = t2 := ht
      rw [hd, ht']
    obtain ⟨s, hs, hsl, _, hdrop⟩ := I.stage
    have hse : s = eff.length := by
      rcases Nat.lt_or_ge s eff.length with h | h
      · exfalso
        have hm : eff[s] ∈ eff.drop s := List.mem_drop_iff_getElem.2 ⟨0, by omega, by congr 1⟩
        have h1 := hdrop _ hm
        unfold planB at hp
        simp only [Bool.and_eq_true] at hp
        have h2 := List.all_eq_true.1 hp.1.2 eff[s] (List.getElem_mem h)
        rw [hall _ (by simpa using h2)] at h1; cases h1
      · omega
    subst hse
    rw [hl] at hs
    cases hs
    rw [ha]; exact hend
  have hnone : ∀ (listed : Array Bool) (a : Act) (w : World), PlanInv l eff a0 aF Ws listed a w → Region.ready .any l.toArray listed = [] → Q .normal a w := by
    intro listed a w I hr
    have hall : ∀ n i, i < n → i < l.length → listed.getD i false = true := by
      intro n
      induction n with
      | zero => intro i h; omega
      | succ n ih =>
        intro i hin hil
        cases hb : listed.getD i false with
        | true => rfl
        | false =>
          exfalso
          have hm : i ∈ Region.ready .any l.toArray listed := by
            refine mem_ready.2 ⟨by rw [getD_same (by rw [I.size]; exact hil) true false]; exact hb, l[i], by simp [hil], fun e he hbd => ?_⟩
            unfold planB at hp
            simp only [Bool.and_eq_true] at hp
            have hi' := List.all_eq_true.1 hp.1.1.1.2 i (List.mem_range.2 hil)
            rw [List.getElem?_eq_getElem hil] at hi'
            simp only [Bool.and_eq_true] at hi'
            have h1 := List.all_eq_true.1 hi'.1.2 e (by simpa using he)
            simp only [hbd, Bool.not_true, Bool.false_or, decide_eq_true_eq] at h1
            exact ih e.on (by omega) (by omega)
          rw [hr] at hm; cases hm
    exact full listed a w I fun i hi => hall l.length i hi hi
  intro fuel
  induction fuel with
  | zero =>
    intro listed a w I hu
    have hall : ∀ i, i < l.length → listed.getD i false = true := by
      intro i hi
      cases hb : listed.getD i false with
      | true => rfl
      | false =>
        have := unlisted_set (i := i) (by rw [I.size]; exact hi) hb
        omega
    refine ⟨?_, full listed a w I hall⟩
    cases hr : Region.ready .any l.toArray listed with
    | nil => rfl
    | cons i r =>
      exfalso
      obtain ⟨h0, o, ho, _⟩ := mem_ready.1 (hr ▸ List.mem_cons_self : i ∈ Region.ready .any l.toArray listed)
      have hil : i < l.length := by
        have : i < l.toArray.size := (Array.getElem?_eq_some_iff.1 ho).1
        simpa using this
      have h1 := hall i hil
      rw [getD_same (by rw [I.size]; exact hil) false true, h0] at h1
      cases h1
  | succ n ih =>
    intro listed a w I hu
    refine ⟨fun hr => hnone listed a w I hr, fun i hi => ?_⟩
    refine wpOp_mono (fun a' w' I' => ih _ a' w' I' ?_) (plan_step hp hsame hsz hW hob listed a w I i hi)
    obtain ⟨h0, o, ho, hall⟩ := mem_ready.1 hi
    have hil : i < listed.size := by
      rw [I.size]
      have : i < l.toArray.size := (Array.getElem?_eq_some_iff.1 ho).1
      simpa using this
    have := unlisted_set hil (by rw [getD_same hil false true]; exact h0)
    omega

theorem putAll_same : ∀ (l : List Oper) (vs : List Value) (a : Act), (putAll a l vs).defers = a.defers ∧ (putAll a l vs).tmps.size = a.tmps.size ∧ ∀ d, (∀ i : Nat, (l[i]?).bind Oper.dst ≠ some d) → (putAll a l vs).tmps[d]? = a.tmps[d]?
  | [], _, a => ⟨rfl, rfl, fun _ _ => rfl⟩
  | o :: l, [], a => ⟨rfl, rfl, fun _ _ => rfl⟩
  | o :: l, v :: vs, a => by
    obtain ⟨h1, h2, h3⟩ := putAll_same l vs (a.put o.dst v)
    refine ⟨?_, ?_, fun d hd => ?_⟩
    · show (putAll (a.put o.dst v) l vs).defers = _
      rw [h1]; cases o.dst <;> rfl
    · show (putAll (a.put o.dst v) l vs).tmps.size = _
      rw [h2]
      cases o.dst with
      | none => rfl
      | some d => simp [Act.put]
    · show (putAll (a.put o.dst v) l vs).tmps[d]? = _
      rw [h3 d (fun i => by have := hd (i + 1); simpa using this)]
      have h0 := hd 0
      cases hdo : o.dst with
      | none => rfl
      | some d' =>
        have : d' ≠ d := fun e => h0 (by simp [hdo, e])
        simp only [Act.put, Array.getElem?_setIfInBounds_ne this]

theorem getD_rep (m j : Nat) : (Array.replicate m false).getD j false = false := by
  rcases Nat.lt_or_ge j m with h | h
  · simp [h]
  · simp [Array.getElem?_eq_none (by simpa using h : (Array.replicate m false).size ≤ j)]

theorem wp_region_plan {id : Nat} {a : Act} {w : World} (eff : List Nat) (prs : List (Nat × Nat)) (Ws : List World) (vs : List Value) {aF : Act} {wl : World} (hm : P.follows .mixedOrders = true) (hp : planB l eff prs = true) (hF : putAll a l vs = aF)
    (hW0 : Ws[0]? = some w.drew) (hW : Ws.length = eff.length + 1) (hl : Ws[eff.length]? = some wl) (hob : Obls P l aF Ws eff prs) (hend : Q .normal aF wl) : (Code.region id l.toArray true).wp P Q a w := by
  obtain ⟨h1, h2, h3⟩ := putAll_same l vs a
  rw [hF] at h1 h2 h3
  refine wp_region_any hm (wpAny_plan (a0 := a) hp h3 h2 hW hob wl hl hend _ _ _ _ ⟨by simp, ?_, h1.symm, h2.symm, ?_, fun _ _ => rfl, 0, hW0, Nat.zero_le _, by simp, ?_⟩ ?_)
  · intro i j hi; rw [getD_rep] at hi; cases hi
  · intro i d hi; rw [getD_rep] at hi; cases hi
  · intro e he; exact getD_rep _ _
  · simp [unlisted]
end
#print axioms wp_region_plan
end Go.Own
