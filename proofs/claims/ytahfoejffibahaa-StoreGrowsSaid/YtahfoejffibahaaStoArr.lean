/-
  An array of three ints that came in by value.
-/
import Derived.Deep.Slices
import Derived.OpenShut
import Derived.Test.YtahfoejffibahaaStoEq
namespace Go.Sto
open Go.Own Go.RowKit Go.Proofs Go.ChangeShapes Go.WideShapes

set_option maxRecDepth 100000 in
theorem open_arr3 {H : Type} {enc : TypeId × Value → H} {W : World} {r : Reach} {base fuel : Nat} {v : Value} {x : DataW H × List MemPlace}
    (hv : Value.okWide Try.prog W r base 51 v) (h : DataW.trod enc Try.prog W 0 (fun _ => true) true fuel 51 v.cells.toList = some x) :
    ∃ l0 l1 l2 : Int, v = .agg #[.int .i64 l0, .int .i64 l1, .int .i64 l2] := by
  have hpu : Try.prog.underlying 51 = some (.array 3 3) := Try.underlying51
  have hc3 : Try.prog.cellsOf 51 = 3 := by kernel_rfl
  have hc1 : Try.prog.cellsOf 3 = 1 := by kernel_rfl
  unfold Value.okWide at hv
  rw [hpu] at hv
  obtain ⟨cs, rfl, hcs, -⟩ := hv
  rw [hc3] at hcs
  obtain ⟨l⟩ := cs
  match l, hcs with
  | [v0, v1, v2], _ =>
    obtain ⟨xs, k, -, -, -, hxl, hf⟩ := DataW.trod_array hpu h
    match xs, hxl with
    | [y0, y1, y2], _ =>
      have g0 := hf 0 (by omega)
      have g1 := hf 1 (by omega)
      have g2 := hf 2 (by omega)
      simp [hc1, Value.cells] at g0 g1 g2
      obtain ⟨z0, e0, -, -⟩ := DataW.trod_int Try.underlying3 g0
      obtain ⟨z1, e1, -, -⟩ := DataW.trod_int Try.underlying3 g1
      obtain ⟨z2, e2, -, -⟩ := DataW.trod_int Try.underlying3 g2
      simp only [List.cons.injEq, and_true] at e0 e1 e2
      subst e0; subst e1; subst e2
      exact ⟨z0, z1, z2, rfl⟩
end Go.Sto
