/-
  A new console of the reference's.
-/
import Derived.Test.YtjdafmpkobelcaaDoorQRefType
set_option linter.unusedVariables false

namespace Go.Con
open Go.Own Go.RowKit Go.Proofs

/-! ### A new console of the reference's -/
def rzeros : List Value := [nilSlice, .int .i64 0, .int .i64 0, nilSlice] ++ List.replicate 100 (.int .i64 0) ++ List.replicate 100 nilSlice ++ [.int .i64 0, nilSlice, .bool false]
theorem rzeros_info : (Tryd.prog.info? 48).map (fun i => (i.zero, i.size)) = some (some (.agg rzeros.toArray), 207) := by kernel_rfl
def rg0 (c : Nat) : RG := { g := { c := c, ml := 0, mf := 0, mo := 0, tv := nilSlice, sv := nilSlice, fl := fun _ => none, ff := fun _ => none, fo := fun _ => none, ρ := fun k => if k = c then (1, 0) else (0, 0) }, wv := nilSlice, wt := [], ov := fun _ => nilSlice, bg := false }
theorem rg0_cells (c : Nat) : rcells (rg0 c) CS.new = rzeros.toArray := by
  apply Array.ext'
  simp only [rcells, Array.toList_ofFn]
  kernel_rfl
theorem run_rzero (c : Nat) (w : World) : (zeroValue 48).run Tryd.prog w = .ok (.agg (rcells (rg0 c) CS.new)) w := by
  rw [rg0_cells]
  have h := rzeros_info
  cases hi : Tryd.prog.info? 48 with
  | none => rw [hi] at h; cases h
  | some i =>
    rw [hi] at h
    have h1 : i.zero = some (.agg rzeros.toArray) := by
      have := Option.some.inj h
      exact congrArg Prod.fst this
    simp [zeroValue, typeInfo, hi, h1]
theorem rg0_rep (w : World) (o : Obj) (ho : o = .cells (rcells (rg0 w.heap.size) CS.new) 48 (0, 0)) : RRep (rg0 w.heap.size) CS.new (w.alloc o) := by
  subst ho
  exact { blk := heap_alloc_new w _
          tc := by simp [rg0]
          fresh := fun k hk => by
            have hz : (w.alloc (.cells (rcells (rg0 w.heap.size) CS.new) 48 (0, 0))).heap.size = w.heap.size + 1 := by simp
            show (if k = w.heap.size then ((1, 0) : Tag) else (0, 0)).1 = 0
            rw [if_neg (by omega)]
          typed := SliceT.nil _ _ _ _ _, screen := SliceT.nil _ _ _ _ _, waiting := SliceT.nil _ _ _ _ _, own := fun k => SliceT.nil _ _ _ _ _
          lines := fun k => rfl, two := fun e => (by cases e), nb := fun _ => ⟨rfl, rfl, rfl⟩ }

end Go.Con
