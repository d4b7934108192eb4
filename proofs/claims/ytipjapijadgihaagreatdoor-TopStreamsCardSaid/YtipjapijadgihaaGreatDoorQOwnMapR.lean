/-
  OWN, MAPS THAT ARE RANGED OVER: a map with int keys that is owned, with its stamps; Go's look-up and store over it; 'for k, v := range m' over it. Of no program.
-/
import Derived.Maps.RangeWalk
import Derived.Test.YtipjapijadgihaaGreatDoorQOwnMap
set_option linter.unusedVariables false

namespace Go.Own
open Go.RowKit Go.Maps Go.MapKept
open Go.ChangeMaps (setBlock)

/-- A map of the heap, what it holds, its stamps in order. -/
def MapS (w : World) (b : Nat) (f : Int → Option Value) : Prop := ∃ es clock, w.heap[b]? = some (.map es clock) ∧ MapRep es.toList f ∧ Stamped es clock

theorem MapS.at {w : World} {b : Nat} {f : Int → Option Value} (h : MapS w b f) : MapAt w b f := by
  obtain ⟨es, clock, h1, h2, _⟩ := h
  exact ⟨es, clock, h1, h2⟩
theorem MapS.lt {w : World} {b : Nat} {f : Int → Option Value} (h : MapS w b f) : b < w.heap.size := h.at.lt
theorem MapS.keep {w w' : World} {b : Nat} {f : Int → Option Value} (h : MapS w b f) (hb : w'.heap[b]? = w.heap[b]?) : MapS w' b f := by
  obtain ⟨es, clock, h1, h2⟩ := h
  exact ⟨es, clock, by rw [hb]; exact h1, h2⟩
theorem MapS.of_block {w : World} {b : Nat} (h : w.heap[b]? = some (.map #[] 0)) : MapS w b (fun _ => none) :=
  ⟨#[], 0, h, ⟨by simp, by simp, by simp⟩, stamped_empty 0⟩

section
variable {P : Program} {w : World} {b : Nat} {f : Int → Option Value} {t kt et : TypeId}

theorem MapS.update (h : MapS w b f) (hk : P.underlying kt = some (.int .i64)) (ht : P.underlying t = some (.map kt et)) {k : Int} (hw : (Lit.int .i64 k).wf = true) (v : Value) :
    ∃ w', (Instr.mapUpdate t (.map (some b)) (.int .i64 k) v).run P w = .ok () w' ∧ MapS w' b (upd f k (some v)) ∧ Turn (fun j => j = b) w w' ∧ w'.heap.size = w.heap.size := by
  obtain ⟨es, clock, hb, R, S⟩ := h
  have K := int_keyed hk
  have hkey := keyOf_int_mk hk hw
  have hlt := heap_lt hb
  rcases R.find hk w hw with ⟨h1, h2, h3⟩ | ⟨j, e, h1, h2, h3, h4⟩
  · refine ⟨{ w with heap := w.heap.setIfInBounds b (.map (es.push ⟨.int .i64 k, v, clock⟩) (clock + 1)) }, ?_, ⟨_, _, heap_setObj_self hlt, ?_, stamped_push S h3⟩, turn_setObj _ _ _, by simp⟩
    · simp [Instr.mapUpdate, run_underlying ht, MapKept.run_getObj_map hb, K.check w _ hkey, h1, MapKept.run_setObj_map _ hb, Result.andThen]
    · rw [Array.toList_push]
      exact R.push hw h3 v clock
  · have hj : es[j]? = some e := by simpa using h2
    have hlist : (es.modify j (fun e' => { e' with key := .int .i64 k, val := v })).toList = es.toList.set j { e with key := .int .i64 k, val := v } := by
      rw [Array.toList_modify, ChangeMaps.modify_eq_set _ _ _ _ h2]
    refine ⟨{ w with heap := w.heap.setIfInBounds b (.map (es.modify j (fun e' => { e' with key := .int .i64 k, val := v })) clock) }, ?_, ⟨_, _, heap_setObj_self hlt, ?_, stamped_modify S j _ (fun _ _ => rfl) (fun e' _ he => ?_)⟩, turn_setObj _ _ _, by simp⟩
    · simp [Instr.mapUpdate, run_underlying ht, MapKept.run_getObj_map hb, K.check w _ hkey, h1, hj, h3, K.stays w hkey, MapKept.run_setObj_map _ hb, Result.andThen]
    · rw [hlist]
      exact R.set h2 h3 v
    · rw [hj] at he
      cases he
      exact h3.symm

theorem wpList_updateS {ops : Array Oper} {rest : List Oper} {o : Oper} {a : Act} {Q : Exit → Act → World → Prop} (hg : o.guard = none) (m x v : Operand) (hop : o.op = Op.mapUpdate t m x v)
    (hk : P.underlying kt = some (.int .i64)) (ht : P.underlying t = some (.map kt et)) (hm : a.eval m = .map (some b)) (h : MapS w b f) {k : Int} (hx : a.eval x = .int .i64 k) (hw : (Lit.int .i64 k).wf = true) {u : Value} (hv : a.eval v = u)
    (hK : ∀ w', MapS w' b (upd f k (some u)) → Turn (fun j => j = b) w w' → w'.heap.size = w.heap.size → wpList P ops Q rest (a.put o.dst undef) w') : wpList P ops Q (o :: rest) a w := by
  refine wpList_plain hg fun K' hK' => ?_
  obtain ⟨w', hrun, r1, r2, r3⟩ := h.update hk ht hw u
  unfold Oper.wp
  simp [execOp, hop, hm, hx, hv, hrun, Result.andThen]
  exact hK' _ _ (hK w' r1 r2 r3)

/-- 'for k, v := range m' under way: block r iterates over the map of block b; 'left': which keys are still to come; cnt: how many. -/
def RangeAt (w : World) (b r : Nat) (f : Int → Option Value) (left : Int → Bool) (cnt : Nat) : Prop :=
  ∃ es clock since seen c0, w.heap[b]? = some (.map es clock) ∧ MapRep es.toList f ∧ Stamped es clock ∧
    w.heap[r]? = some (.mapIter (some b) since seen c0) ∧ (∀ x ∈ es.toList, x.born < since) ∧ (leftOf es seen).size = cnt ∧
    (∀ x ∈ es.toList, ∀ k, x.key = .int .i64 k → left k = !seen.contains x.born) ∧ (∀ k, left k = true → (f k).isSome) ∧ since ≤ c0 ∧ since ≤ clock

def iterLeft (w : World) (b r : Nat) : Nat :=
  match w.heap[b]?, w.heap[r]? with
  | some (.map es _), some (.mapIter _ _ seen _) => (leftOf es seen).size
  | _, _ => 0

variable {r : Nat} {left : Int → Bool} {cnt : Nat}

theorem RangeAt.left_eq (h : RangeAt w b r f left cnt) : iterLeft w b r = cnt := by
  obtain ⟨es, clock, since, seen, c0, hb, _, _, hr, _, hc, _⟩ := h
  simp only [iterLeft, hb, hr]
  exact hc

theorem RangeAt.keep {w' : World} (h : RangeAt w b r f left cnt) (h1 : w'.heap[b]? = w.heap[b]?) (h2 : w'.heap[r]? = w.heap[r]?) : RangeAt w' b r f left cnt := by
  obtain ⟨es, clock, since, seen, c0, hb, R, S, hr, rest⟩ := h
  exact ⟨es, clock, since, seen, c0, by rw [h1]; exact hb, R, S, by rw [h2]; exact hr, rest⟩

theorem RangeAt.map (h : RangeAt w b r f left cnt) : MapS w b f := by
  obtain ⟨es, clock, since, seen, c0, hb, R, S, _⟩ := h
  exact ⟨es, clock, hb, R, S⟩
theorem RangeAt.lt (h : RangeAt w b r f left cnt) : r < w.heap.size := by
  obtain ⟨es, clock, since, seen, c0, _, _, _, hr, _⟩ := h
  exact heap_lt hr

theorem MapS.range (h : MapS w b f) (ht : P.underlying t = some (.map kt et)) :
    ∃ o cnt, (Instr.range t (.map (some b))).run P w = .ok (.pointer (some ⟨w.heap.size, 0, none⟩)) (w.alloc o) ∧ RangeAt (w.alloc o) b w.heap.size f (fun k => (f k).isSome) cnt := by
  have hlt := h.lt
  obtain ⟨es, clock, hb, R, S⟩ := h
  refine ⟨_, _, run_range_map w t kt et b es clock ht hb, es, clock, clock, #[], clock, (heap_alloc_lt w _ b hlt).trans hb, R, S, heap_alloc_new w _, S.1, rfl, fun x hx k hk => ?_, fun k hk => hk, Nat.le_refl _, Nat.le_refl _⟩
  have : f k = some x.val := (R.get k x.val).2 ⟨x, hx, hk, rfl⟩
  simp [this]

theorem RangeAt.next (h : RangeAt w b r f left cnt) (ty : TypeId) :
    (cnt = 0 ∧ (∀ k, left k = false) ∧ (Instr.next (.pointer (some ⟨r, 0, none⟩)) false ty).run P w = .ok (.tuple #[.bool false]) w) ∨
    ∃ k v w' cnt', (Lit.int .i64 k).wf = true ∧ left k = true ∧ f k = some v ∧ (Instr.next (.pointer (some ⟨r, 0, none⟩)) false ty).run P w = .ok (.tuple #[.bool true, .int .i64 k, v]) w' ∧
      RangeAt w' b r f (fun j => left j && !decide (j = k)) cnt' ∧ cnt' < cnt ∧ Turn (fun j => j = r) w w' ∧ w'.heap.size = w.heap.size ∧ (Instr.entry (.pointer (some ⟨r, 0, none⟩))).run P w' = .ok (.tuple #[.int .i64 k, v]) w' := by
  obtain ⟨es, clock, since, seen, c0, hb, R, S, hr, hold, rfl, hl1, hl2, hsc, hsk⟩ := h
  have hne : r ≠ b := by intro e; rw [e, hb] at hr; cases hr
  have hst := (stamped_iff es clock).1 S
  rcases run_next_at (P := P) w ty r b since c0 seen es clock hr hb hold hsc with ⟨h0, hrun⟩ | ⟨e, he, w1, hal, hrun⟩
  · refine Or.inl ⟨h0, fun k => ?_, hrun⟩
    cases hk : left k
    · rfl
    · have hs := hl2 k hk
      obtain ⟨v, hv⟩ := Option.isSome_iff_exists.1 hs
      obtain ⟨x, hx, hxk, _⟩ := (R.get k v).1 hv
      rw [hl1 x hx k hxk, all_seen es seen h0 x hx] at hk
      cases hk
  · obtain ⟨hem, hes⟩ := mem_left he
    obtain ⟨k, hek, hwk⟩ := R.keys e hem
    have hr1 : w1.heap[r]? = some (.mapIter (some b) since seen c0) := by rcases hal with rfl | rfl <;> exact hr
    have hb1 : w1.heap[b]? = some (.map es clock) := by rcases hal with rfl | rfl <;> exact hb
    have hset := MapKept.heap_set (o' := .mapIter (some b) since (seen.push e.born) clock) hr1
    have hb' : (setBlock w1 r (.mapIter (some b) since (seen.push e.born) clock)).heap[b]? = some (.map es clock) := (hset.2 b (fun e1 => hne e1.symm)).trans hb1
    have hent := run_entry_at (P := P) _ r b since seen es clock e hset.1 hb' hem hst.2.1
    rw [hek] at hrun hent
    refine Or.inr ⟨k, e.val, _, _, hwk, by rw [hl1 e hem k hek, hes]; rfl, (R.get k e.val).2 ⟨e, hem, hek, rfl⟩, hrun,
      ⟨es, clock, since, seen.push e.born, clock, hb', R, S, hset.1, hold, rfl, fun x hx j hxj => ?_, fun j hj => hl2 j (by simp at hj; exact hj.1), hsk, hsk⟩, left_shrinks es seen e he, ?_, ?_, hent⟩
    · show (left j && !decide (j = k)) = _
      rw [hl1 x hx j hxj, contains_push]
      by_cases hjk : j = k
      · subst hjk
        have hxe : x = e := entry_eq_of_key hst.2.2 hx hem (hxj.trans hek.symm)
        subst hxe
        simp
      · have hb : (x.born == e.born) = false := by
          rw [beq_eq_false_iff_ne]
          intro hbe
          have := born_inj hst.2.1 hx hem hbe
          subst this
          exact hjk (int_key_inj (hxj.symm.trans hek))
        simp [hjk, hb]
    · rcases hal with rfl | rfl <;> exact ⟨rfl, rfl, rfl, by simp [setBlock], fun i _ hi => hset.2 i (fun e1 => hi e1)⟩
    · rcases hal with rfl | rfl <;> simp [setBlock]

/-! ### At the operation -/

theorem wpList_rangeS {ops : Array Oper} {rest : List Oper} {o : Oper} {a : Act} {Q : Exit → Act → World → Prop} (hg : o.guard = none) (m : Operand) (hop : o.op = Op.range t m) (ht : P.underlying t = some (.map kt et))
    (hm : a.eval m = .map (some b)) (h : MapS w b f)
    (hK : ∀ w' cnt, RangeAt w' b w.heap.size f (fun k => (f k).isSome) cnt → (∃ o', w' = w.alloc o') → wpList P ops Q rest (a.put o.dst (.pointer (some ⟨w.heap.size, 0, none⟩))) w') :
    wpList P ops Q (o :: rest) a w := by
  refine wpList_plain hg fun K' hK' => ?_
  obtain ⟨o', cnt, hrun, r1⟩ := h.range ht
  unfold Oper.wp
  simp [execOp, hop, hm, hrun, Result.andThen]
  exact hK' _ _ (hK _ cnt r1 ⟨_, rfl⟩)

theorem wpList_nextS {ops : Array Oper} {rest : List Oper} {o : Oper} {a : Act} {Q : Exit → Act → World → Prop} (hg : o.guard = none) (it : Operand) (hop : o.op = Op.next it false)
    (hit : a.eval it = .pointer (some ⟨r, 0, none⟩)) (h : RangeAt w b r f left cnt)
    (hDone : cnt = 0 → (∀ k, left k = false) → wpList P ops Q rest (a.put o.dst (.tuple #[.bool false])) w)
    (hMore : ∀ k v w' cnt', (Lit.int .i64 k).wf = true → left k = true → f k = some v → RangeAt w' b r f (fun j => left j && !decide (j = k)) cnt' → cnt' < cnt → Turn (fun j => j = r) w w' → w'.heap.size = w.heap.size →
      (Instr.entry (.pointer (some ⟨r, 0, none⟩))).run P w' = .ok (.tuple #[.int .i64 k, v]) w' → wpList P ops Q rest (a.put o.dst (.tuple #[.bool true, .int .i64 k, v])) w') :
    wpList P ops Q (o :: rest) a w := by
  refine wpList_plain hg fun K' hK' => ?_
  unfold Oper.wp
  rcases h.next (P := P) o.type with ⟨h0, hl, hrun⟩ | ⟨k, v, w', cnt', hwk, hlk, hfk, hrun, hrg, hlt, htn, hsz, hen⟩
  · simp [execOp, hop, hit, hrun, Result.andThen]
    exact hK' _ _ (hDone h0 hl)
  · simp [execOp, hop, hit, hrun, Result.andThen]
    exact hK' _ _ (hMore k v w' cnt' hwk hlk hfk hrg hlt htn hsz hen)

end
#print axioms wpList_nextS
end Go.Own
