/-
  Plain laws of the console's model: what plain bytes, rubs, ends and clears make of the typed line.
-/
import Derived.Test.YtjdafmpkobelcaaConPure1
namespace Go.Con
open Go.Own

def plainB (l : Bytes) : Bool := l.all fun b => decide (32 ≤ b.toNat) && decide (b.toNat ≤ 126) && !isDigit b

/-- The typed line is t, no number is being typed, task 1 is chosen, and the lines ls wait for it. -/
def St (S : CS) (t : Bytes) (ls : List Bytes) : Prop := S.typed = t ∧ S.typing = false ∧ S.chosen = 1 ∧ S.lines 1 = ls

theorem St.new : St CS.new [] [] := ⟨rfl, rfl, rfl, rfl⟩

theorem St.key_plain {S : CS} {t : Bytes} {ls : List Bytes} (h : St S t ls) {b : UInt8} (h1 : 32 ≤ b.toNat) (h2 : b.toNat ≤ 126) (hl : t.length < 80) : St (S.key b).1 (t ++ [b]) ls ∧ (S.key b).2 = [] := by
  obtain ⟨a1, a2, a3, a4⟩ := h
  unfold CS.key CS.act
  rw [if_neg (by rw [a2]; decide), if_pos ⟨h1, h2⟩, if_neg (by rw [a1]; omega)]
  exact ⟨⟨by show S.typed ++ [b] = _; rw [a1], a2, a3, a4⟩, rfl⟩

theorem St.type_plain {l : Bytes} : ∀ {S : CS} {t : Bytes} {ls : List Bytes}, St S t ls → plainB l = true → t.length + l.length ≤ 80 → St (S.type l).1 (t ++ l) ls ∧ (S.type l).2 = [] := by
  induction l with
  | nil => intro S t ls h _ _; exact ⟨by simpa [CS.type] using h, rfl⟩
  | cons b r ih =>
    intro S t ls h hp hl
    unfold plainB at hp
    simp only [List.all_cons, Bool.and_eq_true, decide_eq_true_eq] at hp
    simp only [List.length_cons] at hl
    have h1 := h.key_plain hp.1.1.1 hp.1.1.2 (by omega)
    have h2 := ih h1.1 hp.2 (by simp; omega)
    simp only [CS.type]
    refine ⟨by simpa [List.append_assoc] using h2.1, by rw [h1.2, h2.2]; rfl⟩

theorem St.key_rub {S : CS} {t : Bytes} {b : UInt8} {ls : List Bytes} (h : St S (t ++ [b]) ls) : St (S.type [127]).1 t ls := by
  obtain ⟨a1, a2, a3, a4⟩ := h
  have e : S.key 127 = (S.rub (min 1 S.typed.length), []) := by
    unfold CS.key CS.act
    rw [if_neg (by rw [a2]; decide)]
    rfl
  simp only [CS.type, e]
  refine ⟨?_, a2, a3, a4⟩
  show S.typed.take (S.typed.length - min 1 S.typed.length) = t
  rw [a1]
  simp

theorem St.rub_lines (S : CS) (h : S.typing = false) : (S.type [127]).2 = [] := by
  have e : S.key 127 = (S.rub (min 1 S.typed.length), []) := by
    unfold CS.key CS.act
    rw [if_neg (by rw [h]; decide)]
    rfl
  simp only [CS.type, e]
  rfl
theorem St.clear_lines (S : CS) (h : S.typing = false) : (S.type [21]).2 = [] := by
  have e : S.key 21 = (S.rub S.typed.length, []) := by
    unfold CS.key CS.act
    rw [if_neg (by rw [h]; decide)]
    rfl
  simp only [CS.type, e]
  rfl

theorem St.key_end {S : CS} {t : Bytes} {ls : List Bytes} (h : St S t ls) : St (S.type [10]).1 [] (ls ++ [t ++ [10]]) ∧ (S.type [10]).2 = [(1, t ++ [10])] := by
  obtain ⟨a1, a2, a3, a4⟩ := h
  have e : S.key 10 = (S.echo [10]).hand [10] := by
    unfold CS.key CS.act
    rw [if_neg (by rw [a2]; decide)]
    rfl
  have e2 : (S.echo [10]).hand [10] = ({ S.echo [10] with typed := [], lines := upd S.lines S.chosen (S.lines S.chosen ++ [S.typed ++ [10]]) }, [(S.chosen, S.typed ++ [10])]) := by
    unfold CS.hand
    rw [if_neg (by show ¬ S.chosen = 0; rw [a3]; decide)]
    rfl
  simp only [CS.type, e, e2]
  refine ⟨⟨rfl, a2, a3, ?_⟩, by rw [a1, a3]; rfl⟩
  show upd S.lines S.chosen _ 1 = _
  rw [a3, upd_self, a4, a1]

theorem St.key_clear {S : CS} {t : Bytes} {ls : List Bytes} (h : St S t ls) : St (S.type [21]).1 [] ls := by
  obtain ⟨a1, a2, a3, a4⟩ := h
  have e : S.key 21 = (S.rub S.typed.length, []) := by
    unfold CS.key CS.act
    rw [if_neg (by rw [a2]; decide)]
    rfl
  simp only [CS.type, e]
  refine ⟨?_, a2, a3, a4⟩
  show S.typed.take (S.typed.length - S.typed.length) = []
  simp
end Go.Con
