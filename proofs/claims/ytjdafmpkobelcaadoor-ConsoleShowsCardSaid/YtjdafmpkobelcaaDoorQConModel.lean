/-
  The console as a function of its state: what a byte that is typed does, in plain lists and numbers. No Go, no memory.
-/
import Derived.Test.YtjdafmpkobelcaaDoorQOwnMap
set_option linter.unusedVariables false

namespace Go.Con
open Go.Own

abbrev Bytes := List UInt8

structure CS where
  typed : Bytes
  chosen : Int
  typing : Bool
  digits : Int
  number : Int
  lines : Int → List Bytes
  flags : Int → Int
  out : Int → Bytes
  last : Int
  screen : Bytes

/-- A new console. -/
def CS.new : CS := { typed := [], chosen := 1, typing := false, digits := 0, number := 0, lines := fun _ => [], flags := fun _ => 0, out := fun _ => [], last := 1, screen := [] }

abbrev Ln := Int × Bytes

def CS.echo (S : CS) (s : Bytes) : CS := { S with screen := S.screen ++ s }

/-- n times 8, 32, 8. -/
def rubs : Nat → Bytes
  | 0 => []
  | n + 1 => rubs n ++ [8, 32, 8]

def CS.rub (S : CS) (n : Nat) : CS := { S with typed := S.typed.take (S.typed.length - n), screen := S.screen ++ rubs n }

def CS.hand (S : CS) (e : Bytes) : CS × List Ln :=
  if S.chosen = 0 then ({ S with typed := [] }, [])
  else ({ S with typed := [], lines := upd S.lines S.chosen (S.lines S.chosen ++ [S.typed ++ e]) }, [(S.chosen, S.typed ++ e)])

def isDigit (b : UInt8) : Bool := decide (48 ≤ b.toNat) && decide (b.toNat ≤ 57)

def CS.num (S : CS) (b : UInt8) : Int := (if S.digits = 0 then 0 else S.number) * 10 + ((b.toNat : Int) - 48)

def CS.digit (S : CS) (b : UInt8) : CS := { S with number := S.num b, digits := S.digits + 1, chosen := S.num b, typing := decide (S.digits + 1 < 2) }

/-- The flag that a byte 1, 2, 3, 4 sets. -/
def flagOf (b : UInt8) : Int := if b.toNat = 1 then 1 else if b.toNat = 2 then 2 else if b.toNat = 3 then 4 else 8

/-- Go's or of two numbers of the kind int. -/
def orI (a b : Int) : Int := bits .or .i64 a b

def CS.act (S : CS) (b : UInt8) : CS × List Ln :=
  if 32 ≤ b.toNat ∧ b.toNat ≤ 126 then
    if S.typed.length = 80 then (S.echo [7], []) else (CS.echo { S with typed := S.typed ++ [b] } [b], [])
  else if b.toNat = 10 then (S.echo [10]).hand [10]
  else if b.toNat = 127 then (S.rub (min 1 S.typed.length), [])
  else if b.toNat = 21 then (S.rub S.typed.length, [])
  else if b.toNat = 18 then (S.echo ([10] ++ S.typed), [])
  else if b.toNat = 16 ∧ 0 < S.typed.length then S.hand []
  else if 1 ≤ b.toNat ∧ b.toNat ≤ 4 ∧ 0 < S.chosen then ({ S with flags := upd S.flags S.chosen (orI (S.flags S.chosen) (flagOf b)) }, [])
  else if b.toNat = 20 then ({ S with typing := true, digits := 0 }, [])
  else (S, [])

def CS.key (S : CS) (b : UInt8) : CS × List Ln :=
  if S.typing = true then
    if isDigit b = true then (S.digit b, []) else ({ S with typing := false }).act b
  else S.act b

def CS.type (S : CS) : Bytes → CS × List Ln
  | [] => (S, [])
  | b :: r => (((S.key b).1.type r).1, (S.key b).2 ++ ((S.key b).1.type r).2)

/-- What always holds of a console's numbers. -/
structure CS.Ok (S : CS) : Prop where
  typed : S.typed.length ≤ 80
  chosen0 : 0 ≤ S.chosen
  chosen : S.chosen ≤ 99
  digits0 : 0 ≤ S.digits
  digits : S.digits ≤ 2
  number0 : 0 ≤ S.number
  number : S.number ≤ 99
  typing : S.typing = true → S.digits ≤ 1
  one : S.digits = 1 → S.number ≤ 9
  flags0 : ∀ k, 0 ≤ S.flags k
  flags : ∀ k, S.flags k ≤ 15
  out : ∀ k, (S.out k).length ≤ 80
  last0 : 1 ≤ S.last
  last : S.last ≤ 99

theorem CS.new_ok : CS.new.Ok := by
  constructor <;> simp [CS.new]

theorem orI_ok {a b : Int} (ha : 0 ≤ a) (ha' : a ≤ 15) (hb : 0 ≤ b) (hb' : b ≤ 15) : 0 ≤ orI a b ∧ orI a b ≤ 15 := by
  obtain ⟨a, rfl⟩ := Int.eq_ofNat_of_zero_le ha
  obtain ⟨b, rfl⟩ := Int.eq_ofNat_of_zero_le hb
  have h : a ||| b < 2 ^ 4 := Nat.or_lt_two_pow (by omega) (by omega)
  have e : orI (a : Int) (b : Int) = ((a ||| b : Nat) : Int) := by
    unfold orI bits
    simp only [BitVec.toNat_or, BitVec.toNat_ofInt]
    have h1 : ((a : Int) % ((2 ^ IntKind.i64.bits : Nat) : Int)).toNat = a := by
      have : IntKind.i64.bits = 64 := rfl
      rw [this, Int.emod_eq_of_lt (by omega) (by omega)]; rfl
    have h2 : ((b : Int) % ((2 ^ IntKind.i64.bits : Nat) : Int)).toNat = b := by
      have : IntKind.i64.bits = 64 := rfl
      rw [this, Int.emod_eq_of_lt (by omega) (by omega)]; rfl
    rw [h1, h2, IntWalk.i64_in _ (by omega)]
  rw [e]; omega

theorem flagOf_ok (b : UInt8) : 0 ≤ flagOf b ∧ flagOf b ≤ 15 := by
  unfold flagOf; repeat' split <;> omega

theorem CS.echo_ok {S : CS} (h : S.Ok) (s : Bytes) : (S.echo s).Ok := ⟨h.typed, h.chosen0, h.chosen, h.digits0, h.digits, h.number0, h.number, h.typing, h.one, h.flags0, h.flags, h.out, h.last0, h.last⟩
theorem CS.rub_ok {S : CS} (h : S.Ok) (n : Nat) : (S.rub n).Ok := ⟨by have := h.typed; simp [CS.rub]; omega, h.chosen0, h.chosen, h.digits0, h.digits, h.number0, h.number, h.typing, h.one, h.flags0, h.flags, h.out, h.last0, h.last⟩
theorem CS.hand_ok {S : CS} (h : S.Ok) (e : Bytes) : (S.hand e).1.Ok := by
  unfold CS.hand
  split <;> exact ⟨by simp, h.chosen0, h.chosen, h.digits0, h.digits, h.number0, h.number, h.typing, h.one, h.flags0, h.flags, h.out, h.last0, h.last⟩
theorem isDigit_iff (b : UInt8) : isDigit b = true ↔ 48 ≤ b.toNat ∧ b.toNat ≤ 57 := by simp [isDigit]
theorem CS.num_ok {S : CS} (h : S.Ok) (ht : S.typing = true) {b : UInt8} (hb : isDigit b = true) : 0 ≤ S.num b ∧ S.num b ≤ 99 ∧ (S.digits = 0 → S.num b ≤ 9) := by
  have hb := (isDigit_iff b).1 hb
  have h1 := h.typing ht
  have h2 := h.digits0
  have h3 := h.one
  have h4 := h.number0
  unfold CS.num
  by_cases hd : S.digits = 0
  · rw [if_pos hd]; omega
  · have := h3 (by omega); rw [if_neg hd]; omega
theorem CS.digit_ok {S : CS} (h : S.Ok) (ht : S.typing = true) {b : UInt8} (hb : isDigit b = true) : (S.digit b).Ok := by
  obtain ⟨n0, n1, n2⟩ := CS.num_ok h ht hb
  have h1 := h.typing ht
  have h2 := h.digits0
  have h5 : (S.digit b).typing = true → (S.digit b).digits ≤ 1 := fun e => by
    have e1 : S.digits + 1 < 2 := by simpa [CS.digit] using e
    show S.digits + 1 ≤ 1
    omega
  have h6 : (S.digit b).digits = 1 → (S.digit b).number ≤ 9 := fun e => by
    have e1 : S.digits + 1 = 1 := e
    exact n2 (by omega)
  have h7 : (0 : Int) ≤ (S.digit b).digits := by show (0 : Int) ≤ S.digits + 1; omega
  have h8 : (S.digit b).digits ≤ 2 := by show S.digits + 1 ≤ 2; omega
  exact ⟨h.typed, n0, n1, h7, h8, n0, n1, h5, h6, h.flags0, h.flags, h.out, h.last0, h.last⟩
theorem CS.act_ok {S : CS} (h : S.Ok) (b : UInt8) : (S.act b).1.Ok := by
  unfold CS.act
  split
  · split
    · exact CS.echo_ok h _
    · rename_i hne
      exact ⟨by have := h.typed; simp [CS.echo]; omega, h.chosen0, h.chosen, h.digits0, h.digits, h.number0, h.number, h.typing, h.one, h.flags0, h.flags, h.out, h.last0, h.last⟩
  · split
    · exact CS.hand_ok (CS.echo_ok h _) _
    · split
      · exact CS.rub_ok h _
      · split
        · exact CS.rub_ok h _
        · split
          · exact CS.echo_ok h _
          · split
            · exact CS.hand_ok h _
            · split
              · have ho := orI_ok (h.flags0 S.chosen) (h.flags S.chosen) (flagOf_ok b).1 (flagOf_ok b).2
                exact ⟨h.typed, h.chosen0, h.chosen, h.digits0, h.digits, h.number0, h.number, h.typing, h.one,
                  fun k => by show 0 ≤ upd _ _ _ k; unfold upd; split; exact ho.1; exact h.flags0 k, fun k => by show upd _ _ _ k ≤ 15; unfold upd; split; exact ho.2; exact h.flags k, h.out, h.last0, h.last⟩
              · split
                · exact ⟨h.typed, h.chosen0, h.chosen, by simp, by simp, h.number0, h.number, by simp, by simp, h.flags0, h.flags, h.out, h.last0, h.last⟩
                · exact h
theorem CS.untyping_ok {S : CS} (h : S.Ok) : ({ S with typing := false } : CS).Ok := ⟨h.typed, h.chosen0, h.chosen, h.digits0, h.digits, h.number0, h.number, by simp, h.one, h.flags0, h.flags, h.out, h.last0, h.last⟩
theorem CS.key_ok {S : CS} (h : S.Ok) (b : UInt8) : (S.key b).1.Ok := by
  unfold CS.key
  split
  · split
    · exact CS.digit_ok h ‹_› ‹_›
    · exact CS.act_ok (CS.untyping_ok h) b
  · exact CS.act_ok h b

/-- How much a console holds: no more than n bytes on the screen, n lines of at most 81 bytes that wait for a task. -/
structure CS.Small (S : CS) (n : Nat) : Prop where
  screen : S.screen.length ≤ n
  lines : ∀ k, (S.lines k).length ≤ n
  line : ∀ k, ∀ l ∈ S.lines k, l.length ≤ 81

theorem CS.Small.mono {S : CS} {n m : Nat} (h : S.Small n) (hm : n ≤ m) : S.Small m := ⟨Nat.le_trans h.screen hm, fun k => Nat.le_trans (h.lines k) hm, h.line⟩
theorem CS.new_small : CS.new.Small 0 := ⟨by simp [CS.new], fun k => by simp [CS.new], fun k l hl => by simp [CS.new] at hl⟩

theorem rubs_length (n : Nat) : (rubs n).length = 3 * n := by
  induction n with
  | zero => rfl
  | succ n ih => simp [rubs, ih]; omega
theorem CS.echo_small {S : CS} {n : Nat} (h : S.Small n) (s : Bytes) {m : Nat} (hs : n + s.length ≤ m) : (S.echo s).Small m :=
  ⟨by have := h.screen; simp [CS.echo]; omega, fun k => Nat.le_trans (h.lines k) (by omega), h.line⟩
theorem CS.rub_small {S : CS} {n : Nat} (h : S.Small n) (k m : Nat) (hs : n + 3 * k ≤ m) : (S.rub k).Small m :=
  ⟨by have := h.screen; simp [CS.rub, rubs_length]; omega, fun k => Nat.le_trans (h.lines k) (by omega), h.line⟩
theorem CS.hand_small {S : CS} {n : Nat} (h : S.Small n) (ht : S.typed.length ≤ 80) (e : Bytes) (he : e.length ≤ 1) {m : Nat} (hs : n + 1 ≤ m) : (S.hand e).1.Small m := by
  unfold CS.hand
  split
  · exact ⟨Nat.le_trans h.screen (by omega), fun k => Nat.le_trans (h.lines k) (by omega), h.line⟩
  · refine ⟨Nat.le_trans h.screen (by omega), fun k => ?_, fun k l hl => ?_⟩
    · show (upd S.lines S.chosen (S.lines S.chosen ++ [S.typed ++ e]) k).length ≤ m
      unfold upd
      split
      · have := h.lines S.chosen; simp; omega
      · exact Nat.le_trans (h.lines k) (by omega)
    · have hl' : l ∈ upd S.lines S.chosen (S.lines S.chosen ++ [S.typed ++ e]) k := hl
      unfold upd at hl'
      split at hl'
      · simp only [List.mem_append, List.mem_singleton] at hl'
        rcases hl' with hl' | rfl
        · exact h.line _ l hl'
        · simp; omega
      · exact h.line k l hl'
theorem CS.act_small {S : CS} {n : Nat} (h : S.Small n) (ht : S.typed.length ≤ 80) (b : UInt8) {m : Nat} (hs : n + 250 ≤ m) : (S.act b).1.Small m := by
  unfold CS.act
  split
  · split
    · exact CS.echo_small h _ (by simp; omega)
    · have h' : ({ S with typed := S.typed ++ [b] } : CS).Small n := ⟨h.screen, h.lines, h.line⟩
      exact CS.echo_small h' _ (by simp; omega)
  · split
    · exact CS.hand_small (CS.echo_small h [10] (Nat.le_refl _)) ht _ (by simp) (by simp; omega)
    · split
      · exact CS.rub_small h _ _ (by omega)
      · split
        · exact CS.rub_small h _ _ (by omega)
        · split
          · exact CS.echo_small h _ (by simp; omega)
          · split
            · exact CS.hand_small h ht _ (by simp) (by omega)
            · split
              · exact ⟨Nat.le_trans h.screen (by omega), fun k => Nat.le_trans (h.lines k) (by omega), h.line⟩
              · split
                · exact ⟨Nat.le_trans h.screen (by omega), fun k => Nat.le_trans (h.lines k) (by omega), h.line⟩
                · exact h.mono (by omega)
theorem CS.key_small {S : CS} {n : Nat} (h : S.Small n) (hk : S.Ok) (b : UInt8) {m : Nat} (hs : n + 250 ≤ m) : (S.key b).1.Small m := by
  unfold CS.key
  split
  · split
    · exact ⟨Nat.le_trans h.screen (by omega), fun k => Nat.le_trans (h.lines k) (by omega), h.line⟩
    · have h' : ({ S with typing := false } : CS).Small n := ⟨h.screen, h.lines, h.line⟩
      exact CS.act_small h' hk.typed b hs
  · exact CS.act_small h hk.typed b hs

theorem CS.key_lines (S : CS) (b : UInt8) : (S.key b).2.length ≤ 1 := by
  have hh : ∀ (S : CS) (e : Bytes), (S.hand e).2.length ≤ 1 := fun S e => by unfold CS.hand; split <;> simp
  have ha : ∀ (S : CS), (S.act b).2.length ≤ 1 := fun S => by
    unfold CS.act
    repeat' split
    all_goals first | exact hh _ _ | simp
  unfold CS.key
  repeat' split
  all_goals first | exact ha _ | simp

theorem CS.type_ok {S : CS} (h : S.Ok) : ∀ l : Bytes, (S.type l).1.Ok := by
  intro l
  induction l generalizing S with
  | nil => exact h
  | cons b r ih => exact ih (CS.key_ok h b)
theorem CS.type_small {S : CS} {n : Nat} (h : S.Small n) (hk : S.Ok) : ∀ (l : Bytes) {m : Nat}, n + 250 * l.length ≤ m → (S.type l).1.Small m := by
  intro l
  induction l generalizing S n with
  | nil => intro m hm; exact h.mono (by simpa using hm)
  | cons b r ih => intro m hm; exact ih (CS.key_small h hk b (Nat.le_refl _)) (CS.key_ok hk b) (by simp at hm; omega)
theorem CS.type_append (S : CS) (a b : Bytes) : S.type (a ++ b) = (((S.type a).1.type b).1, (S.type a).2 ++ ((S.type a).1.type b).2) := by
  induction a generalizing S with
  | nil => simp [CS.type]
  | cons x r ih => simp [CS.type, ih, List.append_assoc]
theorem CS.type_lines (S : CS) (l : Bytes) : (S.type l).2.length ≤ l.length := by
  induction l generalizing S with
  | nil => simp [CS.type]
  | cons x r ih =>
    have h1 := CS.key_lines S x
    have h2 := ih (S.key x).1
    simp only [CS.type, List.length_append, List.length_cons]
    omega

/-! ### Values -/
def str (l : Bytes) : Value := .string ⟨l.toArray⟩
def bcells (l : Bytes) : List Value := l.map fun b => .int .u8 (b.toNat : Int)
def scells (l : List Bytes) : List Value := l.map str
def lcells : List Ln → List Value
  | [] => []
  | l :: r => [.int .i64 l.1, str l.2] ++ lcells r
theorem strCells_str (l : Bytes) : Lib.strCells ⟨l.toArray⟩ = bcells l := by simp [Lib.strCells, bcells]
theorem bcells_append (a b : Bytes) : bcells (a ++ b) = bcells a ++ bcells b := by simp [bcells]
theorem scells_append (a b : List Bytes) : scells (a ++ b) = scells a ++ scells b := by simp [scells]
theorem lcells_append (a b : List Ln) : lcells (a ++ b) = lcells a ++ lcells b := by
  induction a with
  | nil => rfl
  | cons x r ih => simp [lcells, ih]
theorem bcells_length (a : Bytes) : (bcells a).length = a.length := by simp [bcells]
theorem scells_length (a : List Bytes) : (scells a).length = a.length := by simp [scells]
theorem lcells_length (a : List Ln) : (lcells a).length = a.length * 2 := by
  induction a with
  | nil => rfl
  | cons x r ih => simp [lcells, ih]; omega
theorem bcells_one (a : Bytes) : ∀ u ∈ bcells a, u.oneCell' = true := by
  intro u hu; simp only [bcells, List.mem_map] at hu; obtain ⟨b, _, rfl⟩ := hu; rfl
theorem scells_one (a : List Bytes) : ∀ u ∈ scells a, u.oneCell' = true := by
  intro u hu; simp only [scells, List.mem_map] at hu; obtain ⟨b, _, rfl⟩ := hu; rfl
theorem lcells_one (a : List Ln) : ∀ u ∈ lcells a, u.oneCell' = true := by
  induction a with
  | nil => intro u hu; cases hu
  | cons x r ih =>
    intro u hu
    simp only [lcells, List.mem_append, List.mem_cons, List.not_mem_nil, or_false] at hu
    rcases hu with (rfl | rfl) | hu
    · rfl
    · rfl
    · exact ih u hu
theorem bcells_take (a : Bytes) (n : Nat) : (bcells a).take n = bcells (a.take n) := by simp [bcells]
theorem scells_drop (a : List Bytes) (n : Nat) : (scells a).drop n = scells (a.drop n) := by simp [scells]
theorem lcells_get (a : List Ln) (i : Nat) (h : i < a.length) : (lcells a)[i * 2]? = some (.int .i64 a[i].1) ∧ (lcells a)[i * 2 + 1]? = some (str a[i].2) := by
  induction a generalizing i with
  | nil => cases h
  | cons x r ih =>
    cases i with
    | zero => simp [lcells]
    | succ i =>
      have := ih i (by simpa using h)
      have e : (i + 1) * 2 = i * 2 + 1 + 1 := by omega
      simp only [lcells, e, List.cons_append, List.nil_append, List.getElem?_cons_succ, List.getElem_cons_succ]
      exact this
end Go.Con
