/-
  OWN, MAPS WITH STRING KEYS that are owned: what one holds as a function; look-up, store, delete, len, range over it. Of no program. (Printed by genstr.py out of OwnMap, OwnMapR, OwnMapD.)
-/
import Derived.StringKeys
import Derived.Test.YtipjapijadgihaaGreatDoorQOwnMapD
set_option linter.unusedVariables false

namespace Go.Own
open Go.RowKit Go.Maps Go.MapKept
open Go.ChangeMaps (setBlock)
open Go.WideMaps (keyOf_string_mk)


structure MapRepT (es : List MapEntry) (f : ByteArray → Option Value) : Prop where
  keys : ∀ e ∈ es, ∃ k, e.key = .string k ∧ k.size ≤ maxLen
  apart : es.Pairwise (fun a b => a.key ≠ b.key)
  get : ∀ k v, f k = some v ↔ ∃ e ∈ es, e.key = .string k ∧ e.val = v

def MapAtT (w : World) (b : Nat) (f : ByteArray → Option Value) : Prop := ∃ es clock, w.heap[b]? = some (.map es clock) ∧ MapRepT es.toList f

theorem MapAtT.lt {w : World} {b : Nat} {f : ByteArray → Option Value} (h : MapAtT w b f) : b < w.heap.size := by
  obtain ⟨es, clock, hb, _⟩ := h
  exact heap_lt hb

theorem MapAtT.keep {w w' : World} {b : Nat} {f : ByteArray → Option Value} (h : MapAtT w b f) (hb : w'.heap[b]? = w.heap[b]?) : MapAtT w' b f := by
  obtain ⟨es, clock, h1, h2⟩ := h
  exact ⟨es, clock, by rw [hb]; exact h1, h2⟩

theorem MapAtT.made (w : World) : MapAtT (w.alloc (.map #[] 0)) w.heap.size (fun _ => none) :=
  ⟨#[], 0, heap_alloc_new w _, by simp, by simp, by simp⟩

theorem MapAtT.of_block {w : World} {b : Nat} (h : w.heap[b]? = some (.map #[] 0)) : MapAtT w b (fun _ => none) :=
  ⟨#[], 0, h, by simp, by simp, by simp⟩

section
variable {P : Program} {w : World} {b : Nat} {f : ByteArray → Option Value} {t kt et : TypeId}

theorem MapRepT.find {es : List MapEntry} (h : MapRepT es f) (hk : P.underlying kt = some .string) (w : World) {k : ByteArray} (hw : k.size ≤ maxLen) :
    ((Instr.findKey kt (.string k) es).run P w = .ok none w ∧ f k = none ∧ ∀ e ∈ es, e.key ≠ .string k) ∨
    ∃ j e, (Instr.findKey kt (.string k) es).run P w = .ok (some (j, e.val)) w ∧ es[j]? = some e ∧ e.key = .string k ∧ f k = some e.val := by
  have K := string_keyed hk
  have hkey := keyOf_string_mk hk hw
  rcases K.find w hkey es (fun e he => by obtain ⟨q, h1, h2⟩ := h.keys e he; exact ⟨_, by rw [h1]; exact keyOf_string_mk hk h2⟩) with ⟨h1, h2⟩ | ⟨j, e, h1, h2, h3⟩
  · refine .inl ⟨h1, ?_, h2⟩
    cases hf : f k with
    | none => rfl
    | some v =>
      obtain ⟨e, he, hek, _⟩ := (h.get k v).1 hf
      exact absurd hek (h2 e he)
  · exact .inr ⟨j, e, h1, h2, h3, (h.get k e.val).2 ⟨e, List.mem_of_getElem? h2, h3, rfl⟩⟩

theorem MapAtT.lookup (h : MapAtT w b f) (hk : P.underlying kt = some .string) (ht : P.underlying t = some (.map kt et)) {z : Value} (hz : (zeroValue et).run P w = .ok z w) {k : ByteArray} (hw : k.size ≤ maxLen) :
    (Instr.lookup t (.map (some b)) (.string k) false).run P w = .ok ((f k).getD z) w := by
  obtain ⟨es, clock, hb, R⟩ := h
  have K := string_keyed hk
  have hkey := keyOf_string_mk hk hw
  rcases R.find hk w hw with ⟨h1, h2, _⟩ | ⟨j, e, h1, h2, h3, h4⟩
  · simp [Instr.lookup, run_underlying ht, MapKept.run_getObj_map hb, K.check w _ hkey, h1, hz, h2, Result.andThen]
  · simp [Instr.lookup, run_underlying ht, MapKept.run_getObj_map hb, K.check w _ hkey, h1, h4, Result.andThen]

theorem MapAtT.lookup_ok (h : MapAtT w b f) (hk : P.underlying kt = some .string) (ht : P.underlying t = some (.map kt et)) {z : Value} (hz : (zeroValue et).run P w = .ok z w) {k : ByteArray} (hw : k.size ≤ maxLen) :
    (Instr.lookup t (.map (some b)) (.string k) true).run P w = .ok (.tuple #[(f k).getD z, .bool (f k).isSome]) w := by
  obtain ⟨es, clock, hb, R⟩ := h
  have K := string_keyed hk
  have hkey := keyOf_string_mk hk hw
  rcases R.find hk w hw with ⟨h1, h2, _⟩ | ⟨j, e, h1, h2, h3, h4⟩
  · simp [Instr.lookup, run_underlying ht, MapKept.run_getObj_map hb, K.check w _ hkey, h1, hz, h2, Result.andThen]
  · simp [Instr.lookup, run_underlying ht, MapKept.run_getObj_map hb, K.check w _ hkey, h1, h4, Result.andThen]

def updT {α : Type} (f : ByteArray → α) (k : ByteArray) (v : α) : ByteArray → α := fun j => if j = k then v else f j
theorem upd_selfT {α : Type} (f : ByteArray → α) (k : ByteArray) (v : α) : updT f k v k = v := by simp [updT]
theorem upd_neT {α : Type} (f : ByteArray → α) {k j : ByteArray} (v : α) (h : j ≠ k) : updT f k v j = f j := by simp [updT, h]

theorem str_key_inj {a b : ByteArray} (h : Value.string a = Value.string b) : a = b := by injection h

theorem MapRepT.push {es : List MapEntry} (h : MapRepT es f) {k : ByteArray} (hw : k.size ≤ maxLen) (hno : ∀ e ∈ es, e.key ≠ .string k) (v : Value) (c : Nat) : MapRepT (es ++ [⟨.string k, v, c⟩]) (updT f k (some v)) := by
  refine ⟨fun e he => ?_, ?_, fun j u => ?_⟩
  · simp only [List.mem_append, List.mem_singleton] at he
    rcases he with he | rfl
    · exact h.keys e he
    · exact ⟨k, rfl, hw⟩
  · rw [List.pairwise_append]
    exact ⟨h.apart, by simp, fun a ha b hb => by simp only [List.mem_singleton] at hb; subst hb; exact hno a ha⟩
  · by_cases hj : j = k
    · subst hj
      rw [upd_selfT]
      constructor
      · intro hu; cases hu; exact ⟨⟨.string j, v, c⟩, by simp, rfl, rfl⟩
      · rintro ⟨e, he, hek, hev⟩
        simp only [List.mem_append, List.mem_singleton] at he
        rcases he with he | rfl
        · exact absurd hek (hno e he)
        · exact congrArg some hev
    · rw [upd_neT f _ hj, h.get]
      constructor
      · rintro ⟨e, he, r⟩; exact ⟨e, by simp [he], r⟩
      · rintro ⟨e, he, hek, hev⟩
        simp only [List.mem_append, List.mem_singleton] at he
        rcases he with he | rfl
        · exact ⟨e, he, hek, hev⟩
        · exact absurd (str_key_inj hek).symm hj

theorem MapRepT.uniq {es : List MapEntry} (h : MapRepT es f) {i j : Nat} {a b : MapEntry} (hi : es[i]? = some a) (hj : es[j]? = some b) (hk : a.key = b.key) : i = j := by
  obtain ⟨hil, hia⟩ := List.getElem?_eq_some_iff.1 hi
  obtain ⟨hjl, hjb⟩ := List.getElem?_eq_some_iff.1 hj
  have hp := List.pairwise_iff_getElem.1 h.apart
  rcases Nat.lt_trichotomy i j with hlt | he | hgt
  · exact absurd (by rw [hia, hjb]; exact hk) (hp i j hil hjl hlt)
  · exact he
  · exact absurd (by rw [hia, hjb]; exact hk.symm) (hp j i hjl hil hgt)

theorem MapRepT.set {es : List MapEntry} (h : MapRepT es f) {k : ByteArray} {j : Nat} {e0 : MapEntry} (hj : es[j]? = some e0) (hk : e0.key = .string k) (v : Value) : MapRepT (es.set j { e0 with key := .string k, val := v }) (updT f k (some v)) := by
  have hjl : j < es.length := (List.getElem?_eq_some_iff.1 hj).1
  have hk0 : ({ e0 with key := .string k, val := v } : MapEntry).key = e0.key := hk.symm
  have hget : ∀ i : Nat, ((es.set j { e0 with key := .string k, val := v })[i]?).map MapEntry.key = (es[i]?).map MapEntry.key := by
    intro i
    rw [List.getElem?_set]
    by_cases hij : j = i
    · subst hij; rw [if_pos rfl, if_pos hjl, hj]; simp [hk]
    · simp [hij]
  refine ⟨fun e he => ?_, ?_, fun q u => ?_⟩
  · obtain ⟨i, hi⟩ := List.mem_iff_getElem?.1 he
    have := hget i
    rw [hi] at this
    cases hh : es[i]? with
    | none => rw [hh] at this; simp at this
    | some e' =>
      rw [hh] at this
      simp only [Option.map_some, Option.some.injEq] at this
      obtain ⟨q, h1, h2⟩ := h.keys e' (List.mem_of_getElem? hh)
      exact ⟨q, by rw [this]; exact h1, h2⟩
  · have h2 : (es.set j { e0 with key := .string k, val := v }).map MapEntry.key = es.map MapEntry.key := by
      apply List.ext_getElem?
      intro i
      rw [List.getElem?_map, List.getElem?_map]
      exact hget i
    have h3 : (es.map MapEntry.key).Pairwise (· ≠ ·) := by rw [List.pairwise_map]; exact h.apart
    rw [← h2, List.pairwise_map] at h3
    exact h3
  · by_cases hq : q = k
    · subst hq
      rw [upd_selfT]
      constructor
      · intro hu; cases hu
        exact ⟨_, List.mem_of_getElem? (i := j) (by rw [List.getElem?_set_self hjl]), rfl, rfl⟩
      · rintro ⟨e, he, hek, hev⟩
        obtain ⟨i, hi⟩ := List.mem_iff_getElem?.1 he
        rw [List.getElem?_set] at hi
        by_cases hij : j = i
        · subst hij
          simp only [if_true, hjl, Option.some.injEq] at hi
          subst hi
          exact congrArg some hev
        · rw [if_neg hij] at hi
          exact absurd (h.uniq hj hi (by rw [hk, hek])) hij
    · rw [upd_neT f _ hq, h.get]
      constructor
      · rintro ⟨e, he, hek, hev⟩
        obtain ⟨i, hi⟩ := List.mem_iff_getElem?.1 he
        have hij : j ≠ i := fun hij => by
          subst hij
          rw [hj] at hi
          cases hi
          exact hq (str_key_inj (hek.symm.trans hk))
        exact ⟨e, List.mem_of_getElem? (i := i) (by rw [List.getElem?_set_ne hij]; exact hi), hek, hev⟩
      · rintro ⟨e, he, hek, hev⟩
        obtain ⟨i, hi⟩ := List.mem_iff_getElem?.1 he
        rw [List.getElem?_set] at hi
        by_cases hij : j = i
        · subst hij
          simp only [if_true, hjl, Option.some.injEq] at hi
          subst hi
          exact absurd (str_key_inj hek).symm hq
        · rw [if_neg hij] at hi
          exact ⟨e, List.mem_of_getElem? hi, hek, hev⟩

theorem MapAtT.update (h : MapAtT w b f) (hk : P.underlying kt = some .string) (ht : P.underlying t = some (.map kt et)) {k : ByteArray} (hw : k.size ≤ maxLen) (v : Value) :
    ∃ w', (Instr.mapUpdate t (.map (some b)) (.string k) v).run P w = .ok () w' ∧ MapAtT w' b (updT f k (some v)) ∧ Turn (fun j => j = b) w w' ∧ w'.heap.size = w.heap.size := by
  obtain ⟨es, clock, hb, R⟩ := h
  have K := string_keyed hk
  have hkey := keyOf_string_mk hk hw
  have hlt := heap_lt hb
  rcases R.find hk w hw with ⟨h1, h2, h3⟩ | ⟨j, e, h1, h2, h3, h4⟩
  · refine ⟨{ w with heap := w.heap.setIfInBounds b (.map (es.push ⟨.string k, v, clock⟩) (clock + 1)) }, ?_, ⟨_, _, heap_setObj_self hlt, ?_⟩, turn_setObj _ _ _, by simp⟩
    · simp [Instr.mapUpdate, run_underlying ht, MapKept.run_getObj_map hb, K.check w _ hkey, h1, MapKept.run_setObj_map _ hb, Result.andThen]
    · rw [Array.toList_push]
      exact R.push hw h3 v clock
  · have hj : es[j]? = some e := by simpa using h2
    have hlist : (es.modify j (fun e' => { e' with key := .string k, val := v })).toList = es.toList.set j { e with key := .string k, val := v } := by
      rw [Array.toList_modify, ChangeMaps.modify_eq_set _ _ _ _ h2]
    refine ⟨{ w with heap := w.heap.setIfInBounds b (.map (es.modify j (fun e' => { e' with key := .string k, val := v })) clock) }, ?_, ⟨_, _, heap_setObj_self hlt, ?_⟩, turn_setObj _ _ _, by simp⟩
    · simp [Instr.mapUpdate, run_underlying ht, MapKept.run_getObj_map hb, K.check w _ hkey, h1, hj, h3, K.stays w hkey, MapKept.run_setObj_map _ hb, Result.andThen]
    · rw [hlist]
      exact R.set h2 h3 v

theorem MapRepT.erase {es : List MapEntry} (h : MapRepT es f) {k : ByteArray} {j : Nat} {e0 : MapEntry} (hj : es[j]? = some e0) (hk : e0.key = .string k) : MapRepT (es.eraseIdx j) (updT f k none) := by
  have hsub := List.eraseIdx_sublist es j
  refine ⟨fun e he => h.keys e (hsub.subset he), h.apart.sublist hsub, fun q u => ?_⟩
  have hmem : ∀ e, e ∈ es.eraseIdx j ↔ ∃ i, i ≠ j ∧ es[i]? = some e := fun e => List.mem_eraseIdx_iff_getElem?
  by_cases hq : q = k
  · subst hq
    rw [upd_selfT]
    constructor
    · intro hu; cases hu
    · rintro ⟨e, he, hek, hev⟩
      obtain ⟨i, hij, hi⟩ := (hmem e).1 he
      exact absurd (h.uniq hi hj (by rw [hk, hek])) hij
  · rw [upd_neT f _ hq, h.get]
    constructor
    · rintro ⟨e, he, hek, hev⟩
      obtain ⟨i, hi⟩ := List.mem_iff_getElem?.1 he
      refine ⟨e, (hmem e).2 ⟨i, fun hij => ?_, hi⟩, hek, hev⟩
      subst hij
      rw [hj] at hi
      cases hi
      exact hq (str_key_inj (hek.symm.trans hk))
    · rintro ⟨e, he, r⟩
      exact ⟨e, hsub.subset he, r⟩

theorem MapAtT.delete {ty : TypeId} (h : MapAtT w b f) (hk : P.underlying kt = some .string) (ht : P.underlying t = some (.map kt et)) {k : ByteArray} (hw : k.size ≤ maxLen) :
    ∃ w', (Builtin.delete_ #[t, kt] ty #[.map (some b), .string k]).run P w = .ok (.tuple #[]) w' ∧ MapAtT w' b (updT f k none) ∧ Turn (fun j => j = b) w w' ∧ w'.heap.size = w.heap.size := by
  obtain ⟨es, clock, hb, R⟩ := h
  have K := string_keyed hk
  have hkey := keyOf_string_mk hk hw
  have hlt := heap_lt hb
  rcases R.find hk w hw with ⟨h1, h2, h3⟩ | ⟨j, e, h1, h2, h3, h4⟩
  · refine ⟨{ w with heap := w.heap.setIfInBounds b (.map es clock) }, ?_, ⟨es, clock, heap_setObj_self hlt, ?_⟩, turn_setObj _ _ _, by simp⟩
    · simp [Builtin.delete_, run_underlying ht, MapKept.run_getObj_map hb, K.check w _ hkey, h1, MapKept.run_setObj_map _ hb, Result.andThen]
    · have : updT f k none = f := by
        funext q
        by_cases hq : q = k
        · subst hq; rw [upd_selfT, h2]
        · rw [upd_neT f _ hq]
      rw [this]; exact R
  · have hjs : j < es.size := by simpa using (List.getElem?_eq_some_iff.1 h2).1
    have hsub : (es.eraseIdxIfInBounds j).toList = es.toList.eraseIdx j := by
      unfold Array.eraseIdxIfInBounds
      rw [dif_pos hjs]
      simp
    refine ⟨{ w with heap := w.heap.setIfInBounds b (.map (es.eraseIdxIfInBounds j) clock) }, ?_, ⟨_, clock, heap_setObj_self hlt, ?_⟩, turn_setObj _ _ _, by simp⟩
    · simp [Builtin.delete_, run_underlying ht, MapKept.run_getObj_map hb, K.check w _ hkey, h1, MapKept.run_setObj_map _ hb, Result.andThen]
    · rw [hsub]; exact R.erase h2 h3

/-! ### At the operation, for the walk -/

theorem wpList_lookupT {ops : Array Oper} {rest : List Oper} {o : Oper} {a : Act} {Q : Exit → Act → World → Prop} (hg : o.guard = none) (m x : Operand) (hop : o.op = Op.lookup t m x false)
    (hk : P.underlying kt = some .string) (ht : P.underlying t = some (.map kt et)) {z : Value} (hz : (zeroValue et).run P w = .ok z w) (hm : a.eval m = .map (some b)) (h : MapAtT w b f) {k : ByteArray} (hx : a.eval x = .string k) (hw : k.size ≤ maxLen)
    (hK : wpList P ops Q rest (a.put o.dst ((f k).getD z)) w) : wpList P ops Q (o :: rest) a w := by
  refine wpList_plain hg fun K' hK' => ?_
  have hrun := h.lookup hk ht hz hw
  unfold Oper.wp
  simp [execOp, hop, hm, hx, hrun, Result.andThen]
  exact hK' _ _ hK

theorem wpList_updateT {ops : Array Oper} {rest : List Oper} {o : Oper} {a : Act} {Q : Exit → Act → World → Prop} (hg : o.guard = none) (m x v : Operand) (hop : o.op = Op.mapUpdate t m x v)
    (hk : P.underlying kt = some .string) (ht : P.underlying t = some (.map kt et)) (hm : a.eval m = .map (some b)) (h : MapAtT w b f) {k : ByteArray} (hx : a.eval x = .string k) (hw : k.size ≤ maxLen) {u : Value} (hv : a.eval v = u)
    (hK : ∀ w', MapAtT w' b (updT f k (some u)) → Turn (fun j => j = b) w w' → w'.heap.size = w.heap.size → wpList P ops Q rest (a.put o.dst undef) w') : wpList P ops Q (o :: rest) a w := by
  refine wpList_plain hg fun K' hK' => ?_
  obtain ⟨w', hrun, r1, r2, r3⟩ := h.update hk ht hw u
  unfold Oper.wp
  simp [execOp, hop, hm, hx, hv, hrun, Result.andThen]
  exact hK' _ _ (hK w' r1 r2 r3)
end
/-- A map of the heap, what it holds, its stamps in order. -/
def MapST (w : World) (b : Nat) (f : ByteArray → Option Value) : Prop := ∃ es clock, w.heap[b]? = some (.map es clock) ∧ MapRepT es.toList f ∧ Stamped es clock

theorem MapST.at {w : World} {b : Nat} {f : ByteArray → Option Value} (h : MapST w b f) : MapAtT w b f := by
  obtain ⟨es, clock, h1, h2, _⟩ := h
  exact ⟨es, clock, h1, h2⟩
theorem MapST.lt {w : World} {b : Nat} {f : ByteArray → Option Value} (h : MapST w b f) : b < w.heap.size := h.at.lt
theorem MapST.keep {w w' : World} {b : Nat} {f : ByteArray → Option Value} (h : MapST w b f) (hb : w'.heap[b]? = w.heap[b]?) : MapST w' b f := by
  obtain ⟨es, clock, h1, h2⟩ := h
  exact ⟨es, clock, by rw [hb]; exact h1, h2⟩
theorem MapST.of_block {w : World} {b : Nat} (h : w.heap[b]? = some (.map #[] 0)) : MapST w b (fun _ => none) :=
  ⟨#[], 0, h, ⟨by simp, by simp, by simp⟩, stamped_empty 0⟩

section
variable {P : Program} {w : World} {b : Nat} {f : ByteArray → Option Value} {t kt et : TypeId}

theorem MapST.update (h : MapST w b f) (hk : P.underlying kt = some .string) (ht : P.underlying t = some (.map kt et)) {k : ByteArray} (hw : k.size ≤ maxLen) (v : Value) :
    ∃ w', (Instr.mapUpdate t (.map (some b)) (.string k) v).run P w = .ok () w' ∧ MapST w' b (updT f k (some v)) ∧ Turn (fun j => j = b) w w' ∧ w'.heap.size = w.heap.size := by
  obtain ⟨es, clock, hb, R, S⟩ := h
  have K := string_keyed hk
  have hkey := keyOf_string_mk hk hw
  have hlt := heap_lt hb
  rcases R.find hk w hw with ⟨h1, h2, h3⟩ | ⟨j, e, h1, h2, h3, h4⟩
  · refine ⟨{ w with heap := w.heap.setIfInBounds b (.map (es.push ⟨.string k, v, clock⟩) (clock + 1)) }, ?_, ⟨_, _, heap_setObj_self hlt, ?_, stamped_push S h3⟩, turn_setObj _ _ _, by simp⟩
    · simp [Instr.mapUpdate, run_underlying ht, MapKept.run_getObj_map hb, K.check w _ hkey, h1, MapKept.run_setObj_map _ hb, Result.andThen]
    · rw [Array.toList_push]
      exact R.push hw h3 v clock
  · have hj : es[j]? = some e := by simpa using h2
    have hlist : (es.modify j (fun e' => { e' with key := .string k, val := v })).toList = es.toList.set j { e with key := .string k, val := v } := by
      rw [Array.toList_modify, ChangeMaps.modify_eq_set _ _ _ _ h2]
    refine ⟨{ w with heap := w.heap.setIfInBounds b (.map (es.modify j (fun e' => { e' with key := .string k, val := v })) clock) }, ?_, ⟨_, _, heap_setObj_self hlt, ?_, stamped_modify S j _ (fun _ _ => rfl) (fun e' _ he => ?_)⟩, turn_setObj _ _ _, by simp⟩
    · simp [Instr.mapUpdate, run_underlying ht, MapKept.run_getObj_map hb, K.check w _ hkey, h1, hj, h3, K.stays w hkey, MapKept.run_setObj_map _ hb, Result.andThen]
    · rw [hlist]
      exact R.set h2 h3 v
    · rw [hj] at he
      cases he
      exact h3.symm

theorem wpList_updateST {ops : Array Oper} {rest : List Oper} {o : Oper} {a : Act} {Q : Exit → Act → World → Prop} (hg : o.guard = none) (m x v : Operand) (hop : o.op = Op.mapUpdate t m x v)
    (hk : P.underlying kt = some .string) (ht : P.underlying t = some (.map kt et)) (hm : a.eval m = .map (some b)) (h : MapST w b f) {k : ByteArray} (hx : a.eval x = .string k) (hw : k.size ≤ maxLen) {u : Value} (hv : a.eval v = u)
    (hK : ∀ w', MapST w' b (updT f k (some u)) → Turn (fun j => j = b) w w' → w'.heap.size = w.heap.size → wpList P ops Q rest (a.put o.dst undef) w') : wpList P ops Q (o :: rest) a w := by
  refine wpList_plain hg fun K' hK' => ?_
  obtain ⟨w', hrun, r1, r2, r3⟩ := h.update hk ht hw u
  unfold Oper.wp
  simp [execOp, hop, hm, hx, hv, hrun, Result.andThen]
  exact hK' _ _ (hK w' r1 r2 r3)

/-- 'for k, v := range m' under way: block r iterates over the map of block b; 'left': which keys are still to come; cnt: how many. -/
def RangeAtT (w : World) (b r : Nat) (f : ByteArray → Option Value) (left : ByteArray → Bool) (cnt : Nat) : Prop :=
  ∃ es clock since seen c0, w.heap[b]? = some (.map es clock) ∧ MapRepT es.toList f ∧ Stamped es clock ∧
    w.heap[r]? = some (.mapIter (some b) since seen c0) ∧ (∀ x ∈ es.toList, x.born < since) ∧ (leftOf es seen).size = cnt ∧
    (∀ x ∈ es.toList, ∀ k, x.key = .string k → left k = !seen.contains x.born) ∧ (∀ k, left k = true → (f k).isSome) ∧ since ≤ c0 ∧ since ≤ clock

def iterLeftT (w : World) (b r : Nat) : Nat :=
  match w.heap[b]?, w.heap[r]? with
  | some (.map es _), some (.mapIter _ _ seen _) => (leftOf es seen).size
  | _, _ => 0

variable {r : Nat} {left : ByteArray → Bool} {cnt : Nat}

theorem RangeAtT.left_eq (h : RangeAtT w b r f left cnt) : iterLeftT w b r = cnt := by
  obtain ⟨es, clock, since, seen, c0, hb, _, _, hr, _, hc, _⟩ := h
  simp only [iterLeftT, hb, hr]
  exact hc

theorem RangeAtT.keep {w' : World} (h : RangeAtT w b r f left cnt) (h1 : w'.heap[b]? = w.heap[b]?) (h2 : w'.heap[r]? = w.heap[r]?) : RangeAtT w' b r f left cnt := by
  obtain ⟨es, clock, since, seen, c0, hb, R, S, hr, rest⟩ := h
  exact ⟨es, clock, since, seen, c0, by rw [h1]; exact hb, R, S, by rw [h2]; exact hr, rest⟩

theorem RangeAtT.map (h : RangeAtT w b r f left cnt) : MapST w b f := by
  obtain ⟨es, clock, since, seen, c0, hb, R, S, _⟩ := h
  exact ⟨es, clock, hb, R, S⟩
theorem RangeAtT.lt (h : RangeAtT w b r f left cnt) : r < w.heap.size := by
  obtain ⟨es, clock, since, seen, c0, _, _, _, hr, _⟩ := h
  exact heap_lt hr

theorem MapST.range (h : MapST w b f) (ht : P.underlying t = some (.map kt et)) :
    ∃ o cnt, (Instr.range t (.map (some b))).run P w = .ok (.pointer (some ⟨w.heap.size, 0, none⟩)) (w.alloc o) ∧ RangeAtT (w.alloc o) b w.heap.size f (fun k => (f k).isSome) cnt := by
  have hlt := h.lt
  obtain ⟨es, clock, hb, R, S⟩ := h
  refine ⟨_, _, run_range_map w t kt et b es clock ht hb, es, clock, clock, #[], clock, (heap_alloc_lt w _ b hlt).trans hb, R, S, heap_alloc_new w _, S.1, rfl, fun x hx k hk => ?_, fun k hk => hk, Nat.le_refl _, Nat.le_refl _⟩
  have : f k = some x.val := (R.get k x.val).2 ⟨x, hx, hk, rfl⟩
  simp [this]

theorem RangeAtT.next (h : RangeAtT w b r f left cnt) (ty : TypeId) :
    (cnt = 0 ∧ (∀ k, left k = false) ∧ (Instr.next (.pointer (some ⟨r, 0, none⟩)) false ty).run P w = .ok (.tuple #[.bool false]) w) ∨
    ∃ k v w' cnt', k.size ≤ maxLen ∧ left k = true ∧ f k = some v ∧ (Instr.next (.pointer (some ⟨r, 0, none⟩)) false ty).run P w = .ok (.tuple #[.bool true, .string k, v]) w' ∧
      RangeAtT w' b r f (fun j => left j && !decide (j = k)) cnt' ∧ cnt' < cnt ∧ Turn (fun j => j = r) w w' ∧ w'.heap.size = w.heap.size ∧ (Instr.entry (.pointer (some ⟨r, 0, none⟩))).run P w' = .ok (.tuple #[.string k, v]) w' := by
  obtain ⟨es, clock, since, seen, c0, hb, R, S, hr, hold, rfl, hl1, hl2, hsc, hsk⟩ := h
  have hne : r ≠ b := by intro e; rw [e, hb] at hr; cases hr
  have hst := (stamped_iff es clock).1 S
  rcases run_next_at (P := P) w ty r b since c0 seen es clock hr hb hold hsc with ⟨h0, hrun⟩ | ⟨e, he, w1, hal, hrun⟩
  · refine Or.inl ⟨h0, fun k => ?_, hrun⟩
    cases hk : left k
    · rfl
    · have hs := hl2 k hk
      obtain ⟨v, hv⟩ := Option.isSome_iff_exists.1 hs
      obtain ⟨x, hx, hxk, _⟩ := (R.get k v).1 hv
      rw [hl1 x hx k hxk, all_seen es seen h0 x hx] at hk
      cases hk
  · obtain ⟨hem, hes⟩ := mem_left he
    obtain ⟨k, hek, hwk⟩ := R.keys e hem
    have hr1 : w1.heap[r]? = some (.mapIter (some b) since seen c0) := by rcases hal with rfl | rfl <;> exact hr
    have hb1 : w1.heap[b]? = some (.map es clock) := by rcases hal with rfl | rfl <;> exact hb
    have hset := MapKept.heap_set (o' := .mapIter (some b) since (seen.push e.born) clock) hr1
    have hb' : (setBlock w1 r (.mapIter (some b) since (seen.push e.born) clock)).heap[b]? = some (.map es clock) := (hset.2 b (fun e1 => hne e1.symm)).trans hb1
    have hent := run_entry_at (P := P) _ r b since seen es clock e hset.1 hb' hem hst.2.1
    rw [hek] at hrun hent
    refine Or.inr ⟨k, e.val, _, _, hwk, by rw [hl1 e hem k hek, hes]; rfl, (R.get k e.val).2 ⟨e, hem, hek, rfl⟩, hrun,
      ⟨es, clock, since, seen.push e.born, clock, hb', R, S, hset.1, hold, rfl, fun x hx j hxj => ?_, fun j hj => hl2 j (by simp at hj; exact hj.1), hsk, hsk⟩, left_shrinks es seen e he, ?_, ?_, hent⟩
    · show (left j && !decide (j = k)) = _
      rw [hl1 x hx j hxj, contains_push]
      by_cases hjk : j = k
      · subst hjk
        have hxe : x = e := entry_eq_of_key hst.2.2 hx hem (hxj.trans hek.symm)
        subst hxe
        simp
      · have hb : (x.born == e.born) = false := by
          rw [beq_eq_false_iff_ne]
          intro hbe
          have := born_inj hst.2.1 hx hem hbe
          subst this
          exact hjk (str_key_inj (hxj.symm.trans hek))
        simp [hjk, hb]
    · rcases hal with rfl | rfl <;> exact ⟨rfl, rfl, rfl, by simp [setBlock], fun i _ hi => hset.2 i (fun e1 => hi e1)⟩
    · rcases hal with rfl | rfl <;> simp [setBlock]

/-! ### At the operation -/

theorem wpList_rangeST {ops : Array Oper} {rest : List Oper} {o : Oper} {a : Act} {Q : Exit → Act → World → Prop} (hg : o.guard = none) (m : Operand) (hop : o.op = Op.range t m) (ht : P.underlying t = some (.map kt et))
    (hm : a.eval m = .map (some b)) (h : MapST w b f)
    (hK : ∀ w' cnt, RangeAtT w' b w.heap.size f (fun k => (f k).isSome) cnt → (∃ o', w' = w.alloc o') → wpList P ops Q rest (a.put o.dst (.pointer (some ⟨w.heap.size, 0, none⟩))) w') :
    wpList P ops Q (o :: rest) a w := by
  refine wpList_plain hg fun K' hK' => ?_
  obtain ⟨o', cnt, hrun, r1⟩ := h.range ht
  unfold Oper.wp
  simp [execOp, hop, hm, hrun, Result.andThen]
  exact hK' _ _ (hK _ cnt r1 ⟨_, rfl⟩)

theorem wpList_nextST {ops : Array Oper} {rest : List Oper} {o : Oper} {a : Act} {Q : Exit → Act → World → Prop} (hg : o.guard = none) (it : Operand) (hop : o.op = Op.next it false)
    (hit : a.eval it = .pointer (some ⟨r, 0, none⟩)) (h : RangeAtT w b r f left cnt)
    (hDone : cnt = 0 → (∀ k, left k = false) → wpList P ops Q rest (a.put o.dst (.tuple #[.bool false])) w)
    (hMore : ∀ k v w' cnt', k.size ≤ maxLen → left k = true → f k = some v → RangeAtT w' b r f (fun j => left j && !decide (j = k)) cnt' → cnt' < cnt → Turn (fun j => j = r) w w' → w'.heap.size = w.heap.size →
      (Instr.entry (.pointer (some ⟨r, 0, none⟩))).run P w' = .ok (.tuple #[.string k, v]) w' → wpList P ops Q rest (a.put o.dst (.tuple #[.bool true, .string k, v])) w') :
    wpList P ops Q (o :: rest) a w := by
  refine wpList_plain hg fun K' hK' => ?_
  unfold Oper.wp
  rcases h.next (P := P) o.type with ⟨h0, hl, hrun⟩ | ⟨k, v, w', cnt', hwk, hlk, hfk, hrun, hrg, hlt, htn, hsz, hen⟩
  · simp [execOp, hop, hit, hrun, Result.andThen]
    exact hK' _ _ (hDone h0 hl)
  · simp [execOp, hop, hit, hrun, Result.andThen]
    exact hK' _ _ (hMore k v w' cnt' hwk hlk hfk hrg hlt htn hsz hen)

end



section
variable {P : Program} {w : World} {b : Nat} {f : ByteArray → Option Value} {t kt et : TypeId}

theorem MapST.delete {ty : TypeId} (h : MapST w b f) (hk : P.underlying kt = some .string) (ht : P.underlying t = some (.map kt et)) {k : ByteArray} (hw : k.size ≤ maxLen) :
    ∃ w', (Builtin.delete_ #[t, kt] ty #[.map (some b), .string k]).run P w = .ok (.tuple #[]) w' ∧ MapST w' b (updT f k none) ∧ Turn (fun j => j = b) w w' ∧ w'.heap.size = w.heap.size := by
  obtain ⟨es, clock, hb, R, S⟩ := h
  have K := string_keyed hk
  have hkey := keyOf_string_mk hk hw
  have hlt := heap_lt hb
  rcases R.find hk w hw with ⟨h1, h2, h3⟩ | ⟨j, e, h1, h2, h3, h4⟩
  · refine ⟨{ w with heap := w.heap.setIfInBounds b (.map es clock) }, ?_, ⟨es, clock, heap_setObj_self hlt, ?_, S⟩, turn_setObj _ _ _, by simp⟩
    · simp [Builtin.delete_, run_underlying ht, MapKept.run_getObj_map hb, K.check w _ hkey, h1, MapKept.run_setObj_map _ hb, Result.andThen]
    · have : updT f k none = f := by
        funext q
        by_cases hq : q = k
        · subst hq; rw [upd_selfT, h2]
        · rw [upd_neT f _ hq]
      rw [this]; exact R
  · have hjs : j < es.size := by simpa using (List.getElem?_eq_some_iff.1 h2).1
    have hsub : (es.eraseIdxIfInBounds j).toList = es.toList.eraseIdx j := by
      unfold Array.eraseIdxIfInBounds
      rw [dif_pos hjs]
      simp
    refine ⟨{ w with heap := w.heap.setIfInBounds b (.map (es.eraseIdxIfInBounds j) clock) }, ?_, ⟨_, clock, heap_setObj_self hlt, ?_, stamped_erase S j⟩, turn_setObj _ _ _, by simp⟩
    · simp [Builtin.delete_, run_underlying ht, MapKept.run_getObj_map hb, K.check w _ hkey, h1, MapKept.run_setObj_map _ hb, Result.andThen]
    · rw [hsub]; exact R.erase h2 h3

theorem wpList_deleteST {ops : Array Oper} {rest : List Oper} {o : Oper} {a : Act} {Q : Exit → Act → World → Prop} (hg : o.guard = none) (m x : Operand) (hop : o.op = Op.call { callee := Callee.builtin Builtin.delete, args := #[m, x], argTypes := #[t, kt] })
    (hk : P.underlying kt = some .string) (ht : P.underlying t = some (.map kt et)) (hm : a.eval m = .map (some b)) (h : MapST w b f) {k : ByteArray} (hx : a.eval x = .string k) (hw : k.size ≤ maxLen)
    (hK : ∀ w', MapST w' b (updT f k none) → Turn (fun j => j = b) w w' → w'.heap.size = w.heap.size → wpList P ops Q rest (a.put o.dst (.tuple #[])) w') : wpList P ops Q (o :: rest) a w := by
  refine wpList_plain hg fun K' hK' => ?_
  obtain ⟨w', hrun, r1, r2, r3⟩ := h.delete (ty := o.type) hk ht hw
  unfold Oper.wp
  simp [execOp, hop, resolve, invoke, builtin, hm, hx, hrun, Result.andThen]
  exact hK' _ _ (hK w' r1 r2 r3)

theorem wpList_lookupOkT {ops : Array Oper} {rest : List Oper} {o : Oper} {a : Act} {Q : Exit → Act → World → Prop} (hg : o.guard = none) (m x : Operand) (hop : o.op = Op.lookup t m x true)
    (hk : P.underlying kt = some .string) (ht : P.underlying t = some (.map kt et)) {z : Value} (hz : (zeroValue et).run P w = .ok z w) (hm : a.eval m = .map (some b)) (h : MapST w b f) {k : ByteArray} (hx : a.eval x = .string k) (hw : k.size ≤ maxLen)
    (hK : wpList P ops Q rest (a.put o.dst (.tuple #[(f k).getD z, .bool (f k).isSome])) w) : wpList P ops Q (o :: rest) a w := by
  refine wpList_plain hg fun K' hK' => ?_
  have hrun := h.at.lookup_ok hk ht hz hw
  unfold Oper.wp
  simp [execOp, hop, hm, hx, hrun, Result.andThen]
  exact hK' _ _ hK

theorem MapST.run_len {ty : TypeId} (h : MapST w b f) (ht : P.underlying t = some (.map kt et)) : (Builtin.len_ #[t] ty #[.map (some b)]).run P w = .ok (.int .i64 (mapLen w b : Nat)) w := by
  obtain ⟨es, clock, hb, R, S⟩ := h
  simp [Builtin.len_, run_underlying ht, MapKept.run_getObj_map hb, mapLen, hb, goInt]

theorem wpList_lenST {ops : Array Oper} {rest : List Oper} {o : Oper} {a : Act} {Q : Exit → Act → World → Prop} (hg : o.guard = none) (m : Operand) (hop : o.op = Op.call { callee := Callee.builtin Builtin.len, args := #[m], argTypes := #[t] })
    (ht : P.underlying t = some (.map kt et)) (hm : a.eval m = .map (some b)) (h : MapST w b f)
    (hK : wpList P ops Q rest (a.put o.dst (.int .i64 (mapLen w b : Nat))) w) : wpList P ops Q (o :: rest) a w := by
  refine wpList_plain hg fun K' hK' => ?_
  have hrun := h.run_len (P := P) (ty := o.type) ht
  unfold Oper.wp
  simp [execOp, hop, resolve, invoke, builtin, hm, hrun, Result.andThen]
  exact hK' _ _ hK

/-- The keys lie in a list: there are no more entries than it is long. -/
theorem MapST.len_le (h : MapST w b f) (l : List ByteArray) (hl : ∀ k, (f k).isSome = true → k ∈ l) : mapLen w b ≤ l.length := by
  obtain ⟨es, clock, hb, R, S⟩ := h
  have e : mapLen w b = es.toList.length := by simp [mapLen, hb]
  rw [e]
  clear e hb S
  obtain ⟨ks, hks⟩ : ∃ ks : List ByteArray, es.toList.map MapEntry.key = ks.map (Value.string) := by
    have hkeys := R.keys
    generalize es.toList = xs at hkeys
    clear R
    induction xs with
    | nil => exact ⟨[], rfl⟩
    | cons x xs ih =>
      obtain ⟨ks, h1⟩ := ih fun e he => hkeys e (List.mem_cons_of_mem _ he)
      obtain ⟨k, h2, -⟩ := hkeys x List.mem_cons_self
      exact ⟨k :: ks, by simp [h1, h2]⟩
  have hlen : es.toList.length = ks.length := by
    have := congrArg List.length hks
    simpa using this
  rw [hlen]
  have hnd : ks.Nodup := by
    have h1 : (es.toList.map MapEntry.key).Pairwise (· ≠ ·) := by rw [List.pairwise_map]; exact R.apart
    rw [hks, List.pairwise_map] at h1
    exact h1.imp fun hne e => hne (by rw [e])
  refine nodup_len ks l hnd fun k hk => ?_
  refine hl k ?_
  have h1 : (Value.string k) ∈ es.toList.map MapEntry.key := by rw [hks]; exact List.mem_map.2 ⟨k, hk, rfl⟩
  obtain ⟨e, he, hek⟩ := List.mem_map.1 h1
  rw [(R.get k e.val).2 ⟨e, he, hek, rfl⟩]
  rfl
end
end Go.Own
