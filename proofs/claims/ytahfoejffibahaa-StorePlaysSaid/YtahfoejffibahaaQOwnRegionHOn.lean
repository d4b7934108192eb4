/-
  OWN, REGIONS, by an invariant: steps of operations behind a guard that lets them run. Of no program.
-/
import Derived.Test.YtahfoejffibahaaQOwnRegionH
set_option linter.unusedVariables false

namespace Go.Own
open Go.RowKit
section
variable {P : Program} {l : List Oper} {eff : List Nat} {aX : (Nat → Value) → Act} {PI : Nat → (Nat → Value) → World → Prop} {i s s' : Nat} {o : Oper}
theorem stepH_value_on (he : eff.contains i = false) (h : ∀ ξ w, PI s ξ w → Region.wanted o (yielded l.toArray (aX ξ).tmps) = true ∧ (execOp (aX ξ).eval o).run P w = .ok (.value (valOf (aX ξ) o)) w) : StepH P l eff aX PI i s s' o :=
  fun ξ w hp => .inl ⟨(h ξ w hp).1, .inl ⟨(h ξ w hp).2, he⟩⟩
theorem stepH_call_on (he : eff.contains i = true) (h : ∀ ξ w, PI s ξ w → Region.wanted o (yielded l.toArray (aX ξ).tmps) = true ∧ ∃ f args, (execOp (aX ξ).eval o).run P w = .ok (.enter f args) w ∧ Calls P f args w (fun e w' => ∃ v, e = .returned v ∧ PI s' (updV ξ i v) w')) : StepH P l eff aX PI i s s' o :=
  fun ξ w hp => .inl ⟨(h ξ w hp).1, .inr (.inr (.inr ⟨he, (h ξ w hp).2⟩))⟩
theorem stepH_make_on (he : eff.contains i = true) (h : ∀ ξ w, PI s ξ w → Region.wanted o (yielded l.toArray (aX ξ).tmps) = true ∧ ∃ v w', (execOp (aX ξ).eval o).run P w = .ok (.value v) w' ∧ PI s' (updV ξ i v) w') : StepH P l eff aX PI i s s' o :=
  fun ξ w hp => .inl ⟨(h ξ w hp).1, .inr (.inl ⟨he, (h ξ w hp).2⟩)⟩
end
end Go.Own
