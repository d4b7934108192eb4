/-
  A list that is being built by appends: its row is new.
-/
import Derived.Test.YtjdafmpkobelcaaDoorQConEq
set_option linter.unusedVariables false

namespace Go.Con
open Go.Own Go.RowKit Go.Proofs

/-- A list that is being built: its row is new. -/
structure Built (w0 : World) (e : TypeId) (sz : Nat) (v : Value) (xs : List Value) (w : World) : Prop where
  at_ : SliceAt w e sz v xs
  new : ∀ b, v.ownBlock = some b → w0.heap.size ≤ b
  old : Turn (fun k => w0.heap.size ≤ k) w0 w

theorem Built.nil (w0 : World) (e : TypeId) (sz : Nat) : Built w0 e sz (.slice none 0 0) [] w0 := ⟨SliceAt.nil _ _ _, fun b hb => by simp [Value.ownBlock] at hb, Turn.refl _ _⟩
theorem Built.turn {w0 : World} {e : TypeId} {sz : Nat} {v : Value} {xs : List Value} {w w' : World} (h : Built w0 e sz v xs w) {T : Nat → Prop} (ht : Turn T w w') (hT : ∀ k, T k → w0.heap.size ≤ k) (hv : ∀ b, v.ownBlock = some b → ¬ T b) : Built w0 e sz v xs w' :=
  ⟨h.at_.turn ht hv, h.new, h.old.trans ⟨ht.os, ht.tape, ht.output, ht.size, fun k hk hn => ht.block k hk fun hh => hn (hT k hh)⟩⟩
theorem Built.alloc {w0 : World} {e : TypeId} {sz : Nat} {v : Value} {xs : List Value} {w : World} (h : Built w0 e sz v xs w) (o : Obj) : Built w0 e sz v xs (w.alloc o) :=
  h.turn (T := fun _ => False) ((Turn.refl _ _).alloc o) (fun _ hh => hh.elim) (fun _ _ hh => hh)
theorem Built.grown {w0 : World} {e : TypeId} {sz : Nat} {v v' : Value} {xs ys : List Value} {w w' : World} (h : Built w0 e sz v xs w) (ht : Turn (fun k => v.ownBlock = some k) w w') (hs : SliceAt w' e sz v' ys) (hw : v'.ownBlock = v.ownBlock ∨ v'.ownBlock = some w.heap.size) : Built w0 e sz v' ys w' := by
  refine ⟨hs, fun b hb => ?_, h.old.trans ⟨ht.os, ht.tape, ht.output, ht.size, fun k hk hn => ht.block k hk fun hh => hn (h.new k hh)⟩⟩
  rcases hw with hw | hw
  · exact h.new b (hw ▸ hb)
  · rw [hw] at hb; cases hb; exact h.old.size

theorem BCells.old {w0 w : World} {a : Option Addr} {l : Bytes} (h : BCells w0 a l) (t : Turn (fun k => w0.heap.size ≤ k) w0 w) : BCells w a l := by
  rcases h with h | ⟨b, off, ha, hc⟩
  · exact .inl h
  · refine .inr ⟨b, off, ha, fun i hi => ?_⟩
    have hb := World.block_lt_of_cell? w0 _ (hc i hi)
    rw [t.cell (fun hh => by have hb' : b < w0.heap.size := hb; have hh' : w0.heap.size ≤ b := hh; omega) hb]; exact hc i hi

def BytesPost (w0 : World) (l : Bytes) (e : Ending) (w' : World) : Prop := ∃ v, e = .returned v ∧ Built w0 5 1 v (bcells l) w'
end Go.Con
