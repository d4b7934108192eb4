/-
  OWN, MAPS: delete, len and the look-up with 'ok' over an owned map with int keys; how many entries it has. Of no program.
-/
import Derived.Test.YtipjapijadgihaaGreatDoorQOwnMapR
set_option linter.unusedVariables false

namespace Go.Own
open Go.RowKit Go.Maps Go.MapKept
open Go.ChangeMaps (setBlock)

theorem nodup_len {α : Type} [DecidableEq α] : ∀ (l m : List α), l.Nodup → (∀ x ∈ l, x ∈ m) → l.length ≤ m.length
  | [], _, _, _ => Nat.zero_le _
  | a :: l, m, hn, h => by
    obtain ⟨h1, h2⟩ := List.nodup_cons.1 hn
    have ha := h a List.mem_cons_self
    have := nodup_len l (m.erase a) h2 fun x hx => (List.mem_erase_of_ne (fun e => h1 (by rw [← e]; exact hx))).2 (h x (List.mem_cons_of_mem _ hx))
    rw [List.length_erase_of_mem ha] at this
    have := List.length_pos_of_mem ha
    simp only [List.length_cons]
    omega

section
variable {P : Program} {w : World} {b : Nat} {f : Int → Option Value} {t kt et : TypeId}

theorem MapS.delete {ty : TypeId} (h : MapS w b f) (hk : P.underlying kt = some (.int .i64)) (ht : P.underlying t = some (.map kt et)) {k : Int} (hw : (Lit.int .i64 k).wf = true) :
    ∃ w', (Builtin.delete_ #[t, kt] ty #[.map (some b), .int .i64 k]).run P w = .ok (.tuple #[]) w' ∧ MapS w' b (upd f k none) ∧ Turn (fun j => j = b) w w' ∧ w'.heap.size = w.heap.size := by
  obtain ⟨es, clock, hb, R, S⟩ := h
  have K := int_keyed hk
  have hkey := keyOf_int_mk hk hw
  have hlt := heap_lt hb
  rcases R.find hk w hw with ⟨h1, h2, h3⟩ | ⟨j, e, h1, h2, h3, h4⟩
  · refine ⟨{ w with heap := w.heap.setIfInBounds b (.map es clock) }, ?_, ⟨es, clock, heap_setObj_self hlt, ?_, S⟩, turn_setObj _ _ _, by simp⟩
    · simp [Builtin.delete_, run_underlying ht, MapKept.run_getObj_map hb, K.check w _ hkey, h1, MapKept.run_setObj_map _ hb, Result.andThen]
    · have : upd f k none = f := by
        funext q
        by_cases hq : q = k
        · subst hq; rw [upd_self, h2]
        · rw [upd_ne f _ hq]
      rw [this]; exact R
  · have hjs : j < es.size := by simpa using (List.getElem?_eq_some_iff.1 h2).1
    have hsub : (es.eraseIdxIfInBounds j).toList = es.toList.eraseIdx j := by
      unfold Array.eraseIdxIfInBounds
      rw [dif_pos hjs]
      simp
    refine ⟨{ w with heap := w.heap.setIfInBounds b (.map (es.eraseIdxIfInBounds j) clock) }, ?_, ⟨_, clock, heap_setObj_self hlt, ?_, stamped_erase S j⟩, turn_setObj _ _ _, by simp⟩
    · simp [Builtin.delete_, run_underlying ht, MapKept.run_getObj_map hb, K.check w _ hkey, h1, MapKept.run_setObj_map _ hb, Result.andThen]
    · rw [hsub]; exact R.erase h2 h3

theorem wpList_deleteS {ops : Array Oper} {rest : List Oper} {o : Oper} {a : Act} {Q : Exit → Act → World → Prop} (hg : o.guard = none) (m x : Operand) (hop : o.op = Op.call { callee := Callee.builtin Builtin.delete, args := #[m, x], argTypes := #[t, kt] })
    (hk : P.underlying kt = some (.int .i64)) (ht : P.underlying t = some (.map kt et)) (hm : a.eval m = .map (some b)) (h : MapS w b f) {k : Int} (hx : a.eval x = .int .i64 k) (hw : (Lit.int .i64 k).wf = true)
    (hK : ∀ w', MapS w' b (upd f k none) → Turn (fun j => j = b) w w' → w'.heap.size = w.heap.size → wpList P ops Q rest (a.put o.dst (.tuple #[])) w') : wpList P ops Q (o :: rest) a w := by
  refine wpList_plain hg fun K' hK' => ?_
  obtain ⟨w', hrun, r1, r2, r3⟩ := h.delete (ty := o.type) hk ht hw
  unfold Oper.wp
  simp [execOp, hop, resolve, invoke, builtin, hm, hx, hrun, Result.andThen]
  exact hK' _ _ (hK w' r1 r2 r3)

theorem wpList_lookupOk {ops : Array Oper} {rest : List Oper} {o : Oper} {a : Act} {Q : Exit → Act → World → Prop} (hg : o.guard = none) (m x : Operand) (hop : o.op = Op.lookup t m x true)
    (hk : P.underlying kt = some (.int .i64)) (ht : P.underlying t = some (.map kt et)) {z : Value} (hz : (zeroValue et).run P w = .ok z w) (hm : a.eval m = .map (some b)) (h : MapS w b f) {k : Int} (hx : a.eval x = .int .i64 k) (hw : (Lit.int .i64 k).wf = true)
    (hK : wpList P ops Q rest (a.put o.dst (.tuple #[(f k).getD z, .bool (f k).isSome])) w) : wpList P ops Q (o :: rest) a w := by
  refine wpList_plain hg fun K' hK' => ?_
  have hrun := h.at.lookup_ok hk ht hz hw
  unfold Oper.wp
  simp [execOp, hop, hm, hx, hrun, Result.andThen]
  exact hK' _ _ hK

/-- How many entries there are. -/
def mapLen (w : World) (b : Nat) : Nat := match w.heap[b]? with
  | some (.map es _) => es.size
  | _ => 0

theorem MapS.run_len {ty : TypeId} (h : MapS w b f) (ht : P.underlying t = some (.map kt et)) : (Builtin.len_ #[t] ty #[.map (some b)]).run P w = .ok (.int .i64 (mapLen w b : Nat)) w := by
  obtain ⟨es, clock, hb, R, S⟩ := h
  simp [Builtin.len_, run_underlying ht, MapKept.run_getObj_map hb, mapLen, hb, goInt]

theorem wpList_lenS {ops : Array Oper} {rest : List Oper} {o : Oper} {a : Act} {Q : Exit → Act → World → Prop} (hg : o.guard = none) (m : Operand) (hop : o.op = Op.call { callee := Callee.builtin Builtin.len, args := #[m], argTypes := #[t] })
    (ht : P.underlying t = some (.map kt et)) (hm : a.eval m = .map (some b)) (h : MapS w b f)
    (hK : wpList P ops Q rest (a.put o.dst (.int .i64 (mapLen w b : Nat))) w) : wpList P ops Q (o :: rest) a w := by
  refine wpList_plain hg fun K' hK' => ?_
  have hrun := h.run_len (P := P) (ty := o.type) ht
  unfold Oper.wp
  simp [execOp, hop, resolve, invoke, builtin, hm, hrun, Result.andThen]
  exact hK' _ _ hK

/-- The keys lie in a list: there are no more entries than it is long. -/
theorem MapS.len_le (h : MapS w b f) (l : List Int) (hl : ∀ k, (f k).isSome = true → k ∈ l) : mapLen w b ≤ l.length := by
  obtain ⟨es, clock, hb, R, S⟩ := h
  have e : mapLen w b = es.toList.length := by simp [mapLen, hb]
  rw [e]
  clear e hb S
  obtain ⟨ks, hks⟩ : ∃ ks : List Int, es.toList.map MapEntry.key = ks.map (Value.int .i64) := by
    have hkeys := R.keys
    generalize es.toList = xs at hkeys
    clear R
    induction xs with
    | nil => exact ⟨[], rfl⟩
    | cons x xs ih =>
      obtain ⟨ks, h1⟩ := ih fun e he => hkeys e (List.mem_cons_of_mem _ he)
      obtain ⟨k, h2, -⟩ := hkeys x List.mem_cons_self
      exact ⟨k :: ks, by simp [h1, h2]⟩
  have hlen : es.toList.length = ks.length := by
    have := congrArg List.length hks
    simpa using this
  rw [hlen]
  have hnd : ks.Nodup := by
    have h1 : (es.toList.map MapEntry.key).Pairwise (· ≠ ·) := by rw [List.pairwise_map]; exact R.apart
    rw [hks, List.pairwise_map] at h1
    exact h1.imp fun hne e => hne (by rw [e])
  refine nodup_len ks l hnd fun k hk => ?_
  refine hl k ?_
  have h1 : (Value.int .i64 k) ∈ es.toList.map MapEntry.key := by rw [hks]; exact List.mem_map.2 ⟨k, hk, rfl⟩
  obtain ⟨e, he, hek⟩ := List.mem_map.1 h1
  rw [(R.get k e.val).2 ⟨e, he, hek, rfl⟩]
  rfl
end
end Go.Own
