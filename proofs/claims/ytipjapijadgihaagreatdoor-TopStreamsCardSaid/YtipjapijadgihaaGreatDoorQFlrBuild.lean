/-
  The values that the filer builds: a block of a kind, a write of the log.
-/
import Derived.Great.BuildSlice
import Derived.Test.YtipjapijadgihaaGreatDoorQFlrRep
set_option linter.unusedVariables false

namespace Go.Flr
open Go.Own Go.RowKit Go.Proofs

theorem fold_cells (off : Nat) (vs : Array Value) (cs : Array Value) (h : off + vs.size ≤ cs.size) :
    vs.zipIdx.foldl (fun cs (x : Value × Nat) => cs.setIfInBounds (off + x.2) x.1) cs = (cs.toList.take off ++ vs.toList ++ cs.toList.drop (off + vs.size)).toArray := by
  obtain ⟨h1, h2⟩ := Great.foldl_set off vs.toList 0 cs
  have e : vs.zipIdx.foldl (fun cs (x : Value × Nat) => cs.setIfInBounds (off + x.2) x.1) cs = (vs.toList.zipIdx 0).foldl (fun cs (x : Value × Nat) => cs.setIfInBounds (off + x.2) x.1) cs := by
    rw [← Array.foldl_toList]
    simp
  rw [e]
  apply Array.ext_getElem?
  intro k
  rw [h2 k]
  simp only [List.getElem?_toArray, List.getElem?_append, List.getElem?_take, List.getElem?_drop, List.length_append, List.length_take, Array.length_toList, Nat.add_zero]
  have hm : min off cs.size = off := by omega
  rw [hm]
  by_cases a : k < off
  · rw [if_neg (by omega), if_pos (by omega), if_pos a, if_pos a]; simp
  · by_cases b : k < off + vs.size
    · rw [if_pos ⟨by omega, b, by omega⟩, if_pos b, if_neg a]
    · rw [if_neg (by omega), if_neg b]
      have : off + vs.size + (k - (off + vs.size)) = k := by omega
      rw [this]; simp

theorem zeroWrite (W : World) : (zeroValue 184).run Tryz.prog W = .ok (.agg (lcells [(0, zeros)]).toArray) W := (zero_of_info (P := Tryz.prog) (v := .agg (lcells [(0, zeros)]).toArray) (n := 129) (by kernel_rfl)).1 W
theorem sizeOfBlock (W : World) : (sizeOf 63).run Tryz.prog W = .ok 128 W := by
  have h := sizeBlock
  cases hq : Tryz.prog.info? 63 with
  | none => rw [hq] at h; cases h
  | some i => rw [hq] at h; simp at h; simp [sizeOf, typeInfo, hq, h]

theorem fill_write (k : Nat) {B : Bytes} (hB : B.length = 128) : Instr.fill (fun x => [((0 : Nat), (1 : Nat)), (1, 128)][x]?) (lcells [(0, zeros)]).toArray [(0, .int .i64 (k : Nat)), (1, agg B)] = some (lcells [(k, B)]).toArray := by
  have hl : (lcells [(0, zeros)]).toArray.size = 129 := by rfl
  have hlB : (bcells B).toArray.size = 128 := by simp [hB]
  have c1 : (Value.int .i64 (k : Nat)).cells = #[.int .i64 (k : Nat)] := rfl
  have c2 : (agg B).cells = (bcells B).toArray := rfl
  have f1 := fold_cells 0 #[.int .i64 (k : Nat)] (lcells [(0, zeros)]).toArray (by rw [hl]; exact Nat.le_of_ble_eq_true rfl)
  have e1 : ((lcells [(0, zeros)]).toArray.toList.take 0 ++ (#[Value.int .i64 (k : Nat)] : Array Value).toList ++ (lcells [(0, zeros)]).toArray.toList.drop (0 + (#[Value.int .i64 (k : Nat)] : Array Value).size)) = lcells [(k, zeros)] := rfl
  rw [e1] at f1
  have hl2 : (lcells [(k, zeros)]).toArray.size = 129 := by rfl
  have f2 := fold_cells 1 (bcells B).toArray (lcells [(k, zeros)]).toArray (by rw [hl2, hlB]; exact Nat.le_refl _)
  have e2 : ((lcells [(k, zeros)]).toArray.toList.take 1 ++ (bcells B).toArray.toList ++ (lcells [(k, zeros)]).toArray.toList.drop (1 + (bcells B).toArray.size)) = lcells [(k, B)] := by
    have hl3 : (lcells [(k, zeros)]).length = 129 := by have := hl2; simpa using this
    rw [hlB, List.drop_of_length_le (by show (lcells [(k, zeros)]).length ≤ 1 + 128; rw [hl3]; exact Nat.le_refl _)]
    simp [lcells]
  rw [e2] at f2
  simp only [Instr.fill, List.getElem?_cons_zero, List.getElem?_cons_succ, c1, c2, hl, hlB, f1]
  simp [hl2]
  rw [← f2, ← Array.foldl_toList]
  simp

set_option maxRecDepth 10000 in
theorem build_write (W : World) (k : Nat) {B : Bytes} (hB : B.length = 128) : (Instr.build 184 #[(0, .int .i64 (k : Nat)), (1, agg B)]).run Tryz.prog W = .ok (.agg (lcells [(k, B)]).toArray) W := by
  have hz := zeroWrite
  have hs := sizeOfBlock
  have hsi := Tryz.sizeOf3
  have hu := fun w => run_underlying Tryz.underlying184 w
  have hf := fill_write k hB
  have hc : (Value.agg (lcells [(0, zeros)]).toArray).cells = (lcells [(0, zeros)]).toArray := rfl
  simp only [Instr.build, Sem.run_bind, hz, hu, Result.andThen_ok]
  simp [hs, hsi, hc, hf]
theorem build_block (W : World) (k : Nat) (hk : k < 4) : (Instr.build 63 #[(0, .int .u8 (k : Nat))]).run Tryz.prog W = .ok (agg (zeroB k)) W := by
  have : k = 0 ∨ k = 1 ∨ k = 2 ∨ k = 3 := by omega
  rcases this with rfl | rfl | rfl | rfl
  all_goals exact run_build W 63 _ _ (by kernel_rfl)

theorem buildSlice_write (W : World) (k : Nat) {B : Bytes} (hB : B.length = 128) : (Instr.buildSlice 58 1 #[(0, .agg (lcells [(k, B)]).toArray)]).run Tryz.prog W = .ok (.slice (some ⟨W.heap.size, 0, none⟩) 1 1) (W.alloc (.cells (lcells [(k, B)]).toArray 184)) := by
  have hi : (Tryz.prog.info? 184).map (fun i => (i.zero, i.size)) = some (some (.agg (lcells [(0, zeros)]).toArray), 129) := by kernel_rfl
  cases hq : Tryz.prog.info? 184 with
  | none => rw [hq] at hi; cases hi
  | some i =>
    rw [hq] at hi
    simp at hi
    obtain ⟨h1, h2⟩ := hi
    have hl : (lcells [(k, B)]).length = 129 := by
      rw [lcells_length (fun x hx => by simp at hx; rw [hx]; exact hB)]; rfl
    refine run_buildSlice W 58 184 1 _ _ i _ Tryz.underlying58 hq h1 (by rw [h2]; decide) (by rw [h2]; decide) ?_
    rw [h2]
    have := Great.fill_whole (s := 129) (by decide) [.agg (lcells [(k, B)]).toArray] ((Array.range (1 * 129)).map (fun x => (Value.agg (lcells [(0, zeros)]).toArray).cells[x % (Value.agg (lcells [(0, zeros)]).toArray).cells.size]!)) (by intro v hv; simp at hv; subst hv; show (lcells [(k, B)]).toArray.size = 129; simpa using hl) (by simp)
    rw [show ((([(.agg (lcells [(k, B)]).toArray : Value)] : List Value).zipIdx 0).map fun x => (x.2, x.1)) = [(0, (.agg (lcells [(k, B)]).toArray : Value))] from rfl] at this
    rw [show (#[(0, (.agg (lcells [(k, B)]).toArray : Value))] : Array (Nat × Value)).toList = [(0, (.agg (lcells [(k, B)]).toArray : Value))] from rfl, this]
    simp [Value.cells]
theorem elemWrite : Elem Tryz.prog 184 129 136 (.agg (lcells [(0, zeros)]).toArray) := Elem.mk' (by kernel_rfl) rfl (by decide)
end Go.Flr
