/-
  The kernel as a pure record: tasks 1 .. n, packets 1 .. m; what the calls that the law makes do to it.
-/
import Derived.WalkKit
namespace Go.Rnd

structure TK where
  pri : Int
  wt : Bool
  q : List Nat
structure PK where
  at_ : Nat
  frm : Nat
  wth : Nat
/-- n tasks, m packets, c calls so far, v moves so far. -/
structure KS where
  n : Nat
  ts : Nat → TK
  m : Nat
  ps : Nat → PK
  c : Nat
  v : Nat

def updN {α : Type} (f : Nat → α) (k : Nat) (x : α) : Nat → α := fun j => if j = k then x else f j
@[simp] theorem updN_self {α : Type} (f : Nat → α) (k : Nat) (x : α) : updN f k x k = x := if_pos rfl
theorem updN_ne {α : Type} (f : Nat → α) {k j : Nat} (x : α) (h : j ≠ k) : updN f k x j = f j := if_neg h

namespace KS
variable (K : KS)
/-- One call more. -/
def tick : KS := { K with c := K.c + 1 }
def rest (t : Nat) : KS := { K with ts := updN K.ts t { K.ts t with wt := true } }
def pop (t p : Nat) (r : List Nat) : KS := { K with ts := updN K.ts t { K.ts t with q := r }, ps := updN K.ps p { K.ps p with at_ := 0, wth := t } }
def send (t p to_ : Nat) : KS := { K with ts := updN K.ts to_ { K.ts to_ with wt := false, q := (K.ts to_).q ++ [p] }, ps := updN K.ps p ⟨to_, t, 0⟩, v := K.v + 1 }
def make (t : Nat) : KS := { K with m := K.m + 1, ps := updN K.ps (K.m + 1) ⟨0, 0, t⟩ }
def add (pri : Int) : KS := { K with n := K.n + 1, ts := updN K.ts (K.n + 1) ⟨pri, false, []⟩ }
def new : KS := ⟨0, fun _ => ⟨0, false, []⟩, 0, fun _ => ⟨0, 0, 0⟩, 0, 0⟩

/-- t is the task that runs: of those that do not wait the one with the greatest priority; 0: all wait. -/
def Best (t : Nat) : Prop :=
  (t = 0 ∧ ∀ i, 1 ≤ i → i ≤ K.n → (K.ts i).wt = true) ∨
  (1 ≤ t ∧ t ≤ K.n ∧ (K.ts t).wt = false ∧ ∀ i, 1 ≤ i → i ≤ K.n → (K.ts i).wt = false → (K.ts i).pri ≤ (K.ts t).pri)

/-- Priorities are what they may be, none twice. -/
structure Ok : Prop where
  pos : ∀ i, 1 ≤ i → i ≤ K.n → 1 ≤ (K.ts i).pri ∧ (K.ts i).pri ≤ 1000
  apart : ∀ i j, 1 ≤ i → i ≤ K.n → 1 ≤ j → j ≤ K.n → (K.ts i).pri = (K.ts j).pri → i = j

theorem Best.unique {K : KS} (h : K.Ok) {s t : Nat} (hs : K.Best s) (ht : K.Best t) : s = t := by
  rcases hs with ⟨rfl, hs⟩ | ⟨s1, s2, s3, s4⟩ <;> rcases ht with ⟨rfl, ht⟩ | ⟨t1, t2, t3, t4⟩
  · rfl
  · rw [hs t t1 t2] at t3; cases t3
  · rw [ht s s1 s2] at s3; cases s3
  · exact h.apart s t s1 s2 t1 t2 (Int.le_antisymm (t4 s s1 s2 s3) (s4 t t1 t2 t3))
end KS
end Go.Rnd
