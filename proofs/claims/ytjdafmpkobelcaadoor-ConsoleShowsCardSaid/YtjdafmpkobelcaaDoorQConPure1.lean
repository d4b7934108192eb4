/-
  Plain laws of the console's model: which lines wait for which task.
-/
import Derived.Test.YtjdafmpkobelcaaDoorQConModel
set_option linter.unusedVariables false

namespace Go.Con
open Go.Own

def textsOf (k : Int) (l : List Ln) : List Bytes := (l.filter fun x => decide (x.1 = k)).map Prod.snd

theorem textsOf_append (k : Int) (a b : List Ln) : textsOf k (a ++ b) = textsOf k a ++ textsOf k b := by simp [textsOf]
theorem textsOf_cons_eq {k : Int} {x : Ln} (h : x.1 = k) (r : List Ln) : textsOf k (x :: r) = x.2 :: textsOf k r := by simp [textsOf, h]
theorem textsOf_cons_ne {k : Int} {x : Ln} (h : x.1 ≠ k) (r : List Ln) : textsOf k (x :: r) = textsOf k r := by simp [textsOf, h]

theorem CS.hand_texts (S : CS) (e : Bytes) (k : Int) : (S.hand e).1.lines k = S.lines k ++ textsOf k (S.hand e).2 := by
  unfold CS.hand
  by_cases h : S.chosen = 0
  · rw [if_pos h]; simp [textsOf]
  · rw [if_neg h]
    show upd S.lines S.chosen (S.lines S.chosen ++ [S.typed ++ e]) k = S.lines k ++ textsOf k [(S.chosen, S.typed ++ e)]
    by_cases hk : k = S.chosen
    · subst hk; rw [upd_self, textsOf_cons_eq (x := (S.chosen, S.typed ++ e)) rfl]; rfl
    · rw [upd_ne _ _ hk, textsOf_cons_ne (x := (S.chosen, S.typed ++ e)) (fun e => hk e.symm)]; simp [textsOf]

theorem CS.act_texts (S : CS) (b : UInt8) (k : Int) : (S.act b).1.lines k = S.lines k ++ textsOf k (S.act b).2 := by
  unfold CS.act
  repeat' split
  all_goals first
    | exact CS.hand_texts _ _ k
    | (simp [textsOf, CS.echo, CS.rub]; done)

theorem CS.key_texts (S : CS) (b : UInt8) (k : Int) : (S.key b).1.lines k = S.lines k ++ textsOf k (S.key b).2 := by
  unfold CS.key
  repeat' split
  · simp [textsOf, CS.digit]
  · exact CS.act_texts _ b k
  · exact CS.act_texts _ b k

theorem CS.type_texts (S : CS) (l : Bytes) (k : Int) : (S.type l).1.lines k = S.lines k ++ textsOf k (S.type l).2 := by
  induction l generalizing S with
  | nil => simp [CS.type, textsOf]
  | cons b r ih =>
    simp only [CS.type]
    rw [ih, CS.key_texts, textsOf_append, List.append_assoc]

theorem CS.hand_tasks {S : CS} (h : S.Ok) (e : Bytes) : ∀ x ∈ (S.hand e).2, 1 ≤ x.1 ∧ x.1 ≤ 99 := by
  unfold CS.hand
  by_cases h0 : S.chosen = 0
  · rw [if_pos h0]; intro x hx; cases hx
  · rw [if_neg h0]
    intro x hx
    simp only [List.mem_singleton] at hx
    subst hx
    have := h.chosen0
    have := h.chosen
    constructor <;> (show _ ≤ _; omega)

theorem CS.act_tasks {S : CS} (h : S.Ok) (b : UInt8) : ∀ x ∈ (S.act b).2, 1 ≤ x.1 ∧ x.1 ≤ 99 := by
  unfold CS.act
  repeat' split
  all_goals first
    | exact CS.hand_tasks (CS.echo_ok h _) _
    | exact CS.hand_tasks h _
    | (intro x hx; cases hx)

theorem CS.key_tasks {S : CS} (h : S.Ok) (b : UInt8) : ∀ x ∈ (S.key b).2, 1 ≤ x.1 ∧ x.1 ≤ 99 := by
  unfold CS.key
  repeat' split
  · intro x hx; cases hx
  · exact CS.act_tasks (CS.untyping_ok h) b
  · exact CS.act_tasks h b

theorem CS.type_tasks {S : CS} (h : S.Ok) (l : Bytes) : ∀ x ∈ (S.type l).2, 1 ≤ x.1 ∧ x.1 ≤ 99 := by
  induction l generalizing S with
  | nil => intro x hx; cases hx
  | cons b r ih =>
    intro x hx
    simp only [CS.type, List.mem_append] at hx
    rcases hx with hx | hx
    · exact CS.key_tasks h b x hx
    · exact ih (CS.key_ok h b) x hx

theorem textsOf_none {k : Int} {l : List Ln} (h : ∀ x ∈ l, x.1 ≠ k) : textsOf k l = [] := by
  unfold textsOf
  rw [List.map_eq_nil_iff, List.filter_eq_nil_iff]
  intro x hx
  simpa using h x hx

theorem textsOf_drop_lt {k : Int} {l : List Ln} {i : Nat} (h : i < l.length) : textsOf k (l.drop i) = if l[i].1 = k then l[i].2 :: textsOf k (l.drop (i + 1)) else textsOf k (l.drop (i + 1)) := by
  rw [List.drop_eq_getElem_cons h]
  split
  · exact textsOf_cons_eq ‹_› _
  · exact textsOf_cons_ne ‹_› _
end Go.Con
