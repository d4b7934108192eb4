/-
  OWN, MAPS: a map with keys of the kind int that is owned: what it holds as a function; Go's look-up, store and delete over it. Of no program.
-/
import Derived.Maps.OwnOps
import Derived.Deep.RegionLaw
import Derived.Test.YtipjapijadgihaaGreatDoorQOwn
set_option linter.unusedVariables false

namespace Go.Own
open Go.RowKit Go.Maps

structure MapRep (es : List MapEntry) (f : Int → Option Value) : Prop where
  keys : ∀ e ∈ es, ∃ k, e.key = .int .i64 k ∧ (Lit.int .i64 k).wf = true
  apart : es.Pairwise (fun a b => a.key ≠ b.key)
  get : ∀ k v, f k = some v ↔ ∃ e ∈ es, e.key = .int .i64 k ∧ e.val = v

def MapAt (w : World) (b : Nat) (f : Int → Option Value) : Prop := ∃ es clock, w.heap[b]? = some (.map es clock) ∧ MapRep es.toList f

theorem MapAt.lt {w : World} {b : Nat} {f : Int → Option Value} (h : MapAt w b f) : b < w.heap.size := by
  obtain ⟨es, clock, hb, _⟩ := h
  exact heap_lt hb

theorem MapAt.keep {w w' : World} {b : Nat} {f : Int → Option Value} (h : MapAt w b f) (hb : w'.heap[b]? = w.heap[b]?) : MapAt w' b f := by
  obtain ⟨es, clock, h1, h2⟩ := h
  exact ⟨es, clock, by rw [hb]; exact h1, h2⟩

theorem MapAt.made (w : World) : MapAt (w.alloc (.map #[] 0)) w.heap.size (fun _ => none) :=
  ⟨#[], 0, heap_alloc_new w _, by simp, by simp, by simp⟩

theorem MapAt.of_block {w : World} {b : Nat} (h : w.heap[b]? = some (.map #[] 0)) : MapAt w b (fun _ => none) :=
  ⟨#[], 0, h, by simp, by simp, by simp⟩

section
variable {P : Program} {w : World} {b : Nat} {f : Int → Option Value} {t kt et : TypeId}

theorem MapRep.find {es : List MapEntry} (h : MapRep es f) (hk : P.underlying kt = some (.int .i64)) (w : World) {k : Int} (hw : (Lit.int .i64 k).wf = true) :
    ((Instr.findKey kt (.int .i64 k) es).run P w = .ok none w ∧ f k = none ∧ ∀ e ∈ es, e.key ≠ .int .i64 k) ∨
    ∃ j e, (Instr.findKey kt (.int .i64 k) es).run P w = .ok (some (j, e.val)) w ∧ es[j]? = some e ∧ e.key = .int .i64 k ∧ f k = some e.val := by
  have K := int_keyed hk
  have hkey := keyOf_int_mk hk hw
  rcases K.find w hkey es (fun e he => by obtain ⟨q, h1, h2⟩ := h.keys e he; exact ⟨_, by rw [h1]; exact keyOf_int_mk hk h2⟩) with ⟨h1, h2⟩ | ⟨j, e, h1, h2, h3⟩
  · refine .inl ⟨h1, ?_, h2⟩
    cases hf : f k with
    | none => rfl
    | some v =>
      obtain ⟨e, he, hek, _⟩ := (h.get k v).1 hf
      exact absurd hek (h2 e he)
  · exact .inr ⟨j, e, h1, h2, h3, (h.get k e.val).2 ⟨e, List.mem_of_getElem? h2, h3, rfl⟩⟩

theorem MapAt.lookup (h : MapAt w b f) (hk : P.underlying kt = some (.int .i64)) (ht : P.underlying t = some (.map kt et)) {z : Value} (hz : (zeroValue et).run P w = .ok z w) {k : Int} (hw : (Lit.int .i64 k).wf = true) :
    (Instr.lookup t (.map (some b)) (.int .i64 k) false).run P w = .ok ((f k).getD z) w := by
  obtain ⟨es, clock, hb, R⟩ := h
  have K := int_keyed hk
  have hkey := keyOf_int_mk hk hw
  rcases R.find hk w hw with ⟨h1, h2, _⟩ | ⟨j, e, h1, h2, h3, h4⟩
  · simp [Instr.lookup, run_underlying ht, MapKept.run_getObj_map hb, K.check w _ hkey, h1, hz, h2, Result.andThen]
  · simp [Instr.lookup, run_underlying ht, MapKept.run_getObj_map hb, K.check w _ hkey, h1, h4, Result.andThen]

theorem MapAt.lookup_ok (h : MapAt w b f) (hk : P.underlying kt = some (.int .i64)) (ht : P.underlying t = some (.map kt et)) {z : Value} (hz : (zeroValue et).run P w = .ok z w) {k : Int} (hw : (Lit.int .i64 k).wf = true) :
    (Instr.lookup t (.map (some b)) (.int .i64 k) true).run P w = .ok (.tuple #[(f k).getD z, .bool (f k).isSome]) w := by
  obtain ⟨es, clock, hb, R⟩ := h
  have K := int_keyed hk
  have hkey := keyOf_int_mk hk hw
  rcases R.find hk w hw with ⟨h1, h2, _⟩ | ⟨j, e, h1, h2, h3, h4⟩
  · simp [Instr.lookup, run_underlying ht, MapKept.run_getObj_map hb, K.check w _ hkey, h1, hz, h2, Result.andThen]
  · simp [Instr.lookup, run_underlying ht, MapKept.run_getObj_map hb, K.check w _ hkey, h1, h4, Result.andThen]

def upd {α : Type} (f : Int → α) (k : Int) (v : α) : Int → α := fun j => if j = k then v else f j
theorem upd_self {α : Type} (f : Int → α) (k : Int) (v : α) : upd f k v k = v := by simp [upd]
theorem upd_ne {α : Type} (f : Int → α) {k j : Int} (v : α) (h : j ≠ k) : upd f k v j = f j := by simp [upd, h]

theorem int_key_inj {a b : Int} (h : Value.int .i64 a = Value.int .i64 b) : a = b := by injection h

theorem MapRep.push {es : List MapEntry} (h : MapRep es f) {k : Int} (hw : (Lit.int .i64 k).wf = true) (hno : ∀ e ∈ es, e.key ≠ .int .i64 k) (v : Value) (c : Nat) : MapRep (es ++ [⟨.int .i64 k, v, c⟩]) (upd f k (some v)) := by
  refine ⟨fun e he => ?_, ?_, fun j u => ?_⟩
  · simp only [List.mem_append, List.mem_singleton] at he
    rcases he with he | rfl
    · exact h.keys e he
    · exact ⟨k, rfl, hw⟩
  · rw [List.pairwise_append]
    exact ⟨h.apart, by simp, fun a ha b hb => by simp only [List.mem_singleton] at hb; subst hb; exact hno a ha⟩
  · by_cases hj : j = k
    · subst hj
      rw [upd_self]
      constructor
      · intro hu; cases hu; exact ⟨⟨.int .i64 j, v, c⟩, by simp, rfl, rfl⟩
      · rintro ⟨e, he, hek, hev⟩
        simp only [List.mem_append, List.mem_singleton] at he
        rcases he with he | rfl
        · exact absurd hek (hno e he)
        · exact congrArg some hev
    · rw [upd_ne f _ hj, h.get]
      constructor
      · rintro ⟨e, he, r⟩; exact ⟨e, by simp [he], r⟩
      · rintro ⟨e, he, hek, hev⟩
        simp only [List.mem_append, List.mem_singleton] at he
        rcases he with he | rfl
        · exact ⟨e, he, hek, hev⟩
        · exact absurd (int_key_inj hek).symm hj

theorem MapRep.uniq {es : List MapEntry} (h : MapRep es f) {i j : Nat} {a b : MapEntry} (hi : es[i]? = some a) (hj : es[j]? = some b) (hk : a.key = b.key) : i = j := by
  obtain ⟨hil, hia⟩ := List.getElem?_eq_some_iff.1 hi
  obtain ⟨hjl, hjb⟩ := List.getElem?_eq_some_iff.1 hj
  have hp := List.pairwise_iff_getElem.1 h.apart
  rcases Nat.lt_trichotomy i j with hlt | he | hgt
  · exact absurd (by rw [hia, hjb]; exact hk) (hp i j hil hjl hlt)
  · exact he
  · exact absurd (by rw [hia, hjb]; exact hk.symm) (hp j i hjl hil hgt)

theorem MapRep.set {es : List MapEntry} (h : MapRep es f) {k : Int} {j : Nat} {e0 : MapEntry} (hj : es[j]? = some e0) (hk : e0.key = .int .i64 k) (v : Value) : MapRep (es.set j { e0 with key := .int .i64 k, val := v }) (upd f k (some v)) := by
  have hjl : j < es.length := (List.getElem?_eq_some_iff.1 hj).1
  have hk0 : ({ e0 with key := .int .i64 k, val := v } : MapEntry).key = e0.key := hk.symm
  have hget : ∀ i : Nat, ((es.set j { e0 with key := .int .i64 k, val := v })[i]?).map MapEntry.key = (es[i]?).map MapEntry.key := by
    intro i
    rw [List.getElem?_set]
    by_cases hij : j = i
    · subst hij; rw [if_pos rfl, if_pos hjl, hj]; simp [hk]
    · simp [hij]
  refine ⟨fun e he => ?_, ?_, fun q u => ?_⟩
  · obtain ⟨i, hi⟩ := List.mem_iff_getElem?.1 he
    have := hget i
    rw [hi] at this
    cases hh : es[i]? with
    | none => rw [hh] at this; simp at this
    | some e' =>
      rw [hh] at this
      simp only [Option.map_some, Option.some.injEq] at this
      obtain ⟨q, h1, h2⟩ := h.keys e' (List.mem_of_getElem? hh)
      exact ⟨q, by rw [this]; exact h1, h2⟩
  · have h2 : (es.set j { e0 with key := .int .i64 k, val := v }).map MapEntry.key = es.map MapEntry.key := by
      apply List.ext_getElem?
      intro i
      rw [List.getElem?_map, List.getElem?_map]
      exact hget i
    have h3 : (es.map MapEntry.key).Pairwise (· ≠ ·) := by rw [List.pairwise_map]; exact h.apart
    rw [← h2, List.pairwise_map] at h3
    exact h3
  · by_cases hq : q = k
    · subst hq
      rw [upd_self]
      constructor
      · intro hu; cases hu
        exact ⟨_, List.mem_of_getElem? (i := j) (by rw [List.getElem?_set_self hjl]), rfl, rfl⟩
      · rintro ⟨e, he, hek, hev⟩
        obtain ⟨i, hi⟩ := List.mem_iff_getElem?.1 he
        rw [List.getElem?_set] at hi
        by_cases hij : j = i
        · subst hij
          simp only [if_true, hjl, Option.some.injEq] at hi
          subst hi
          exact congrArg some hev
        · rw [if_neg hij] at hi
          exact absurd (h.uniq hj hi (by rw [hk, hek])) hij
    · rw [upd_ne f _ hq, h.get]
      constructor
      · rintro ⟨e, he, hek, hev⟩
        obtain ⟨i, hi⟩ := List.mem_iff_getElem?.1 he
        have hij : j ≠ i := fun hij => by
          subst hij
          rw [hj] at hi
          cases hi
          exact hq (int_key_inj (hek.symm.trans hk))
        exact ⟨e, List.mem_of_getElem? (i := i) (by rw [List.getElem?_set_ne hij]; exact hi), hek, hev⟩
      · rintro ⟨e, he, hek, hev⟩
        obtain ⟨i, hi⟩ := List.mem_iff_getElem?.1 he
        rw [List.getElem?_set] at hi
        by_cases hij : j = i
        · subst hij
          simp only [if_true, hjl, Option.some.injEq] at hi
          subst hi
          exact absurd (int_key_inj hek).symm hq
        · rw [if_neg hij] at hi
          exact ⟨e, List.mem_of_getElem? hi, hek, hev⟩

theorem heap_setObj_self {w : World} {b : Nat} {o : Obj} (h : b < w.heap.size) : ({ w with heap := w.heap.setIfInBounds b o } : World).heap[b]? = some o := by
  simp [h]

theorem turn_setObj (w : World) (b : Nat) (o : Obj) : Turn (fun k => k = b) w { w with heap := w.heap.setIfInBounds b o } :=
  ⟨rfl, rfl, rfl, by simp, fun k hk hs => by
    show (w.heap.setIfInBounds b o)[k]? = _
    rw [Array.getElem?_setIfInBounds_ne (fun e => hs e.symm)]⟩

theorem MapAt.update (h : MapAt w b f) (hk : P.underlying kt = some (.int .i64)) (ht : P.underlying t = some (.map kt et)) {k : Int} (hw : (Lit.int .i64 k).wf = true) (v : Value) :
    ∃ w', (Instr.mapUpdate t (.map (some b)) (.int .i64 k) v).run P w = .ok () w' ∧ MapAt w' b (upd f k (some v)) ∧ Turn (fun j => j = b) w w' ∧ w'.heap.size = w.heap.size := by
  obtain ⟨es, clock, hb, R⟩ := h
  have K := int_keyed hk
  have hkey := keyOf_int_mk hk hw
  have hlt := heap_lt hb
  rcases R.find hk w hw with ⟨h1, h2, h3⟩ | ⟨j, e, h1, h2, h3, h4⟩
  · refine ⟨{ w with heap := w.heap.setIfInBounds b (.map (es.push ⟨.int .i64 k, v, clock⟩) (clock + 1)) }, ?_, ⟨_, _, heap_setObj_self hlt, ?_⟩, turn_setObj _ _ _, by simp⟩
    · simp [Instr.mapUpdate, run_underlying ht, MapKept.run_getObj_map hb, K.check w _ hkey, h1, MapKept.run_setObj_map _ hb, Result.andThen]
    · rw [Array.toList_push]
      exact R.push hw h3 v clock
  · have hj : es[j]? = some e := by simpa using h2
    have hlist : (es.modify j (fun e' => { e' with key := .int .i64 k, val := v })).toList = es.toList.set j { e with key := .int .i64 k, val := v } := by
      rw [Array.toList_modify, ChangeMaps.modify_eq_set _ _ _ _ h2]
    refine ⟨{ w with heap := w.heap.setIfInBounds b (.map (es.modify j (fun e' => { e' with key := .int .i64 k, val := v })) clock) }, ?_, ⟨_, _, heap_setObj_self hlt, ?_⟩, turn_setObj _ _ _, by simp⟩
    · simp [Instr.mapUpdate, run_underlying ht, MapKept.run_getObj_map hb, K.check w _ hkey, h1, hj, h3, K.stays w hkey, MapKept.run_setObj_map _ hb, Result.andThen]
    · rw [hlist]
      exact R.set h2 h3 v

theorem MapRep.erase {es : List MapEntry} (h : MapRep es f) {k : Int} {j : Nat} {e0 : MapEntry} (hj : es[j]? = some e0) (hk : e0.key = .int .i64 k) : MapRep (es.eraseIdx j) (upd f k none) := by
  have hsub := List.eraseIdx_sublist es j
  refine ⟨fun e he => h.keys e (hsub.subset he), h.apart.sublist hsub, fun q u => ?_⟩
  have hmem : ∀ e, e ∈ es.eraseIdx j ↔ ∃ i, i ≠ j ∧ es[i]? = some e := fun e => List.mem_eraseIdx_iff_getElem?
  by_cases hq : q = k
  · subst hq
    rw [upd_self]
    constructor
    · intro hu; cases hu
    · rintro ⟨e, he, hek, hev⟩
      obtain ⟨i, hij, hi⟩ := (hmem e).1 he
      exact absurd (h.uniq hi hj (by rw [hk, hek])) hij
  · rw [upd_ne f _ hq, h.get]
    constructor
    · rintro ⟨e, he, hek, hev⟩
      obtain ⟨i, hi⟩ := List.mem_iff_getElem?.1 he
      refine ⟨e, (hmem e).2 ⟨i, fun hij => ?_, hi⟩, hek, hev⟩
      subst hij
      rw [hj] at hi
      cases hi
      exact hq (int_key_inj (hek.symm.trans hk))
    · rintro ⟨e, he, r⟩
      exact ⟨e, hsub.subset he, r⟩

theorem MapAt.delete {ty : TypeId} (h : MapAt w b f) (hk : P.underlying kt = some (.int .i64)) (ht : P.underlying t = some (.map kt et)) {k : Int} (hw : (Lit.int .i64 k).wf = true) :
    ∃ w', (Builtin.delete_ #[t, kt] ty #[.map (some b), .int .i64 k]).run P w = .ok (.tuple #[]) w' ∧ MapAt w' b (upd f k none) ∧ Turn (fun j => j = b) w w' ∧ w'.heap.size = w.heap.size := by
  obtain ⟨es, clock, hb, R⟩ := h
  have K := int_keyed hk
  have hkey := keyOf_int_mk hk hw
  have hlt := heap_lt hb
  rcases R.find hk w hw with ⟨h1, h2, h3⟩ | ⟨j, e, h1, h2, h3, h4⟩
  · refine ⟨{ w with heap := w.heap.setIfInBounds b (.map es clock) }, ?_, ⟨es, clock, heap_setObj_self hlt, ?_⟩, turn_setObj _ _ _, by simp⟩
    · simp [Builtin.delete_, run_underlying ht, MapKept.run_getObj_map hb, K.check w _ hkey, h1, MapKept.run_setObj_map _ hb, Result.andThen]
    · have : upd f k none = f := by
        funext q
        by_cases hq : q = k
        · subst hq; rw [upd_self, h2]
        · rw [upd_ne f _ hq]
      rw [this]; exact R
  · have hjs : j < es.size := by simpa using (List.getElem?_eq_some_iff.1 h2).1
    have hsub : (es.eraseIdxIfInBounds j).toList = es.toList.eraseIdx j := by
      unfold Array.eraseIdxIfInBounds
      rw [dif_pos hjs]
      simp
    refine ⟨{ w with heap := w.heap.setIfInBounds b (.map (es.eraseIdxIfInBounds j) clock) }, ?_, ⟨_, clock, heap_setObj_self hlt, ?_⟩, turn_setObj _ _ _, by simp⟩
    · simp [Builtin.delete_, run_underlying ht, MapKept.run_getObj_map hb, K.check w _ hkey, h1, MapKept.run_setObj_map _ hb, Result.andThen]
    · rw [hsub]; exact R.erase h2 h3

/-! ### At the operation, for the walk -/

theorem wpList_lookup {ops : Array Oper} {rest : List Oper} {o : Oper} {a : Act} {Q : Exit → Act → World → Prop} (hg : o.guard = none) (m x : Operand) (hop : o.op = Op.lookup t m x false)
    (hk : P.underlying kt = some (.int .i64)) (ht : P.underlying t = some (.map kt et)) {z : Value} (hz : (zeroValue et).run P w = .ok z w) (hm : a.eval m = .map (some b)) (h : MapAt w b f) {k : Int} (hx : a.eval x = .int .i64 k) (hw : (Lit.int .i64 k).wf = true)
    (hK : wpList P ops Q rest (a.put o.dst ((f k).getD z)) w) : wpList P ops Q (o :: rest) a w := by
  refine wpList_plain hg fun K' hK' => ?_
  have hrun := h.lookup hk ht hz hw
  unfold Oper.wp
  simp [execOp, hop, hm, hx, hrun, Result.andThen]
  exact hK' _ _ hK

theorem wpList_update {ops : Array Oper} {rest : List Oper} {o : Oper} {a : Act} {Q : Exit → Act → World → Prop} (hg : o.guard = none) (m x v : Operand) (hop : o.op = Op.mapUpdate t m x v)
    (hk : P.underlying kt = some (.int .i64)) (ht : P.underlying t = some (.map kt et)) (hm : a.eval m = .map (some b)) (h : MapAt w b f) {k : Int} (hx : a.eval x = .int .i64 k) (hw : (Lit.int .i64 k).wf = true) {u : Value} (hv : a.eval v = u)
    (hK : ∀ w', MapAt w' b (upd f k (some u)) → Turn (fun j => j = b) w w' → w'.heap.size = w.heap.size → wpList P ops Q rest (a.put o.dst undef) w') : wpList P ops Q (o :: rest) a w := by
  refine wpList_plain hg fun K' hK' => ?_
  obtain ⟨w', hrun, r1, r2, r3⟩ := h.update hk ht hw u
  unfold Oper.wp
  simp [execOp, hop, hm, hx, hv, hrun, Result.andThen]
  exact hK' _ _ (hK w' r1 r2 r3)
end
/-- append in a region that draws its order, by the equation of its run. -/
theorem step_append_run {P : Program} {ops : Array Oper} {o : Oper} {a : Act} {w : World} {K : Act → World → Prop} {Q : Exit → Act → World → Prop} {E : Prop}
    (hg : o.guard = none) (s x : Operand) (t u : TypeId) (hop : o.op = Op.call { callee := Callee.builtin Builtin.append, args := #[s, x], argTypes := #[t, u] })
    (v xv : Value) (hs : a.eval s = v) (hx : a.eval x = xv) (v' : Value) (w1 : World) (hrun : (Builtin.append_ #[t, u] o.type #[v, xv]).run P w = .ok v' w1)
    (hK : K (a.put o.dst v') w1) : if Region.wanted o (yielded ops a.tmps) = true then Oper.wp P o a w K Q else E := by
  have hw : Region.wanted o (yielded ops a.tmps) = true := by simp [Region.wanted, hg]
  rw [if_pos hw]
  unfold Oper.wp
  simp [execOp, hop, resolve, invoke, builtin, hs, hx, hrun, Result.andThen]
  exact hK

#print axioms MapAt.delete
#print axioms wpList_update
end Go.Own
