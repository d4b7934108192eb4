/-
  What tasks write, as a function of the console's state: lines that go out, bytes that are written, lines that are flushed, flags that are asked.
-/
import Derived.Test.YtjdafmpkobelcaaDoorQConPure1
set_option linter.unusedVariables false

namespace Go.Con
open Go.Own

/-- A number below a hundred, in digits. -/
def numB (n : Nat) : Bytes := if n < 10 then [UInt8.ofNat (48 + n)] else [UInt8.ofNat (48 + n / 10), UInt8.ofNat (48 + n % 10)]

/-- What goes in front of a line: an end of the line that is being typed; whose line it is. -/
def CS.ahead (S : CS) (k : Nat) : Bytes := (if S.typed = [] then [] else [10]) ++ (if (k : Int) = S.last then [] else numB k ++ [58, 32])

/-- A line of a task goes out. -/
def CS.line (S : CS) (k : Nat) (b : Bytes) : CS := { S with screen := S.screen ++ S.ahead k ++ b ++ [10] ++ S.typed, last := k }
def CS.goes (S : CS) (k : Nat) : CS := { S.line k (S.out k) with out := upd S.out k [] }
/-- What a byte is on the screen. -/
def seen (x : UInt8) : UInt8 := if x.toNat < 32 ∨ 126 < x.toNat then 63 else x
def CS.room (S : CS) (k : Nat) : CS := if (S.out k).length = 80 then S.goes k else S
def CS.put (S : CS) (k : Nat) (x : UInt8) : CS :=
  if x.toNat = 10 then S.goes k else { S.room k with out := upd (S.room k).out k ((S.room k).out k ++ [seen x]) }
def CS.write (S : CS) (k : Nat) (l : Bytes) : CS := l.foldl (fun T x => T.put k x) S
def CS.flush (S : CS) (k : Nat) : CS := if S.out k = [] then S else S.goes k
def CS.asked (S : CS) (k : Int) : CS := { S with flags := upd S.flags k 0 }

theorem numB_length (n : Nat) : 1 ≤ (numB n).length ∧ (numB n).length ≤ 2 := by unfold numB; split <;> simp
theorem CS.ahead_length (S : CS) (k : Nat) : (S.ahead k).length ≤ 5 := by
  have := numB_length k
  unfold CS.ahead
  split <;> split <;> simp <;> omega
theorem CS.line_ok {S : CS} (h : S.Ok) (k : Nat) (b : Bytes) (h1 : 1 ≤ k) (h2 : k ≤ 99) : (S.line k b).Ok :=
  ⟨h.typed, h.chosen0, h.chosen, h.digits0, h.digits, h.number0, h.number, h.typing, h.one, h.flags0, h.flags, h.out, by show (1 : Int) ≤ (k : Int); omega, by show (k : Int) ≤ 99; omega⟩
theorem CS.set_out_ok {S : CS} (h : S.Ok) (k : Int) (b : Bytes) (hb : b.length ≤ 80) : ({ S with out := upd S.out k b } : CS).Ok :=
  ⟨h.typed, h.chosen0, h.chosen, h.digits0, h.digits, h.number0, h.number, h.typing, h.one, h.flags0, h.flags, fun j => by show (upd S.out k b j).length ≤ 80; unfold upd; split; exact hb; exact h.out j, h.last0, h.last⟩
theorem CS.goes_ok {S : CS} (h : S.Ok) (k : Nat) (h1 : 1 ≤ k) (h2 : k ≤ 99) : (S.goes k).Ok := CS.set_out_ok (CS.line_ok h k _ h1 h2) k [] (by simp)
theorem CS.room_ok {S : CS} (h : S.Ok) (k : Nat) (h1 : 1 ≤ k) (h2 : k ≤ 99) : (S.room k).Ok := by
  unfold CS.room; split; exact CS.goes_ok h k h1 h2; exact h
theorem CS.goes_out (S : CS) (k : Nat) : (S.goes k).out k = [] := by show upd S.out k [] k = []; rw [upd_self]
theorem CS.room_out {S : CS} (h : S.Ok) (k : Nat) : ((S.room k).out k).length < 80 := by
  unfold CS.room
  split
  · rw [CS.goes_out]; simp
  · have := h.out k; omega
theorem CS.put_ok {S : CS} (h : S.Ok) (k : Nat) (x : UInt8) (h1 : 1 ≤ k) (h2 : k ≤ 99) : (S.put k x).Ok := by
  unfold CS.put
  split
  · exact CS.goes_ok h k h1 h2
  · exact CS.set_out_ok (CS.room_ok h k h1 h2) k _ (by have := CS.room_out h k; simp; omega)
theorem CS.asked_ok {S : CS} (h : S.Ok) (k : Int) : (S.asked k).Ok :=
  ⟨h.typed, h.chosen0, h.chosen, h.digits0, h.digits, h.number0, h.number, h.typing, h.one, fun j => by show 0 ≤ upd S.flags k 0 j; unfold upd; split; simp; exact h.flags0 j, fun j => by show upd S.flags k 0 j ≤ 15; unfold upd; split; simp; exact h.flags j, h.out, h.last0, h.last⟩
theorem CS.goes_small {S : CS} {n : Nat} (h : S.Small n) (hk : S.Ok) (k : Nat) {m : Nat} (hm : n + 166 ≤ m) : (S.goes k).Small m := by
  refine ⟨?_, fun j => Nat.le_trans (h.lines j) (by omega), h.line⟩
  show (S.screen ++ S.ahead k ++ S.out k ++ [10] ++ S.typed).length ≤ m
  have h1 := h.screen
  have h2 := CS.ahead_length S k
  have h3 := hk.out k
  have h4 := hk.typed
  simp only [List.length_append, List.length_cons, List.length_nil]
  omega
theorem CS.put_small {S : CS} {n : Nat} (h : S.Small n) (hk : S.Ok) (k : Nat) (x : UInt8) {m : Nat} (hm : n + 250 ≤ m) : (S.put k x).Small m := by
  unfold CS.put
  split
  · exact CS.goes_small h hk k (by omega)
  · have h1 : (S.room k).Small m := by
      unfold CS.room
      split
      · exact CS.goes_small h hk k (by omega)
      · exact h.mono (by omega)
    exact ⟨h1.screen, h1.lines, h1.line⟩
theorem CS.write_ok {S : CS} (h : S.Ok) (k : Nat) (h1 : 1 ≤ k) (h2 : k ≤ 99) : ∀ l : Bytes, (S.write k l).Ok := by
  intro l
  induction l generalizing S with
  | nil => exact h
  | cons x r ih => exact ih (CS.put_ok h k x h1 h2)
theorem CS.write_small {S : CS} {n : Nat} (h : S.Small n) (hk : S.Ok) (k : Nat) (h1 : 1 ≤ k) (h2 : k ≤ 99) : ∀ (l : Bytes) {m : Nat}, n + 250 * l.length ≤ m → (S.write k l).Small m := by
  intro l
  induction l generalizing S n with
  | nil => intro m hm; exact h.mono (by simpa using hm)
  | cons x r ih => intro m hm; exact ih (CS.put_small h hk k x (Nat.le_refl _)) (CS.put_ok hk k x h1 h2) (by simp at hm; omega)
theorem CS.write_succ (S : CS) (k : Nat) (l : Bytes) (i : Nat) (h : i < l.length) : S.write k (l.take (i + 1)) = (S.write k (l.take i)).put k l[i] := by
  unfold CS.write
  rw [List.take_succ_eq_append_getElem h, List.foldl_append]
  rfl
theorem CS.flush_ok {S : CS} (h : S.Ok) (k : Nat) (h1 : 1 ≤ k) (h2 : k ≤ 99) : (S.flush k).Ok := by
  unfold CS.flush; split; exact h; exact CS.goes_ok h k h1 h2
theorem CS.flush_small {S : CS} {n : Nat} (h : S.Small n) (hk : S.Ok) (k : Nat) {m : Nat} (hm : n + 166 ≤ m) : (S.flush k).Small m := by
  unfold CS.flush; split; exact h.mono (by omega); exact CS.goes_small h hk k hm

/-- What is written leaves what is typed. -/
theorem CS.put_typed (S : CS) (k : Nat) (x : UInt8) : (S.put k x).typed = S.typed ∧ (S.put k x).chosen = S.chosen ∧ (S.put k x).typing = S.typing ∧ (S.put k x).digits = S.digits ∧ (S.put k x).number = S.number ∧ (S.put k x).lines = S.lines ∧ (S.put k x).flags = S.flags := by
  unfold CS.put CS.room
  repeat' split
  all_goals exact ⟨rfl, rfl, rfl, rfl, rfl, rfl, rfl⟩
end Go.Con
