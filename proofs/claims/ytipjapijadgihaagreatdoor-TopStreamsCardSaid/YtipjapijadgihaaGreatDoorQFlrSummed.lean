/-
  summed: a block by value.
-/
import Derived.Test.YtipjapijadgihaaGreatDoorQFlrBlk
set_option linter.unusedVariables false

namespace Go.Flr
open Go.Own Go.RowKit Go.Proofs

/-- A block as a value. -/
abbrev agg (B : Bytes) : Value := .agg (bcells B).toArray
def zeros : Bytes := List.replicate 128 0

theorem zeroBlock (W : World) : (zeroValue 63).run Tryz.prog W = .ok (agg zeros) W := (zero_of_info (P := Tryz.prog) (v := agg zeros) (n := 128) (by kernel_rfl)).1 W
theorem sizeBlock : (Tryz.prog.info? 63).map (·.size) = some 128 := by kernel_rfl

section
variable {w : World}

theorem box_new (w : World) (B : Bytes) : Box (w.alloc (.cells (bcells B).toArray 63)) w.heap.size B := heap_alloc_new w _

theorem wpList_load_block {ops : Array Oper} {rest : List Oper} {op : Oper} {a : Act} {Q : Exit → Act → World → Prop} (hgd : op.guard = none) (x : Operand) (ho : op.op = .load 63 x)
    {b o : Nat} (hx : a.eval x = .pointer (some ⟨b, o, none⟩)) {B : Bytes} (hB : B.length = 128) (hc : w.rangeAt b o (bcells B))
    (h : wpList Tryz.prog ops Q rest (a.put op.dst (agg B)) w) : wpList Tryz.prog ops Q (op :: rest) a w :=
  wpList_load_mid hgd 63 x ho b o hx (bcells B) _ hc Tryz.underlying63 rfl (by rw [sizeBlock, bcells_length, hB]) h

theorem wpList_store_box {ops : Array Oper} {rest : List Oper} {op : Oper} {a : Act} {Q : Exit → Act → World → Prop} (hgd : op.guard = none) (x y : Operand) (ho : op.op = .store 63 x y)
    {b : Nat} {B B' : Bytes} (hx : a.eval x = pt b) (hy : a.eval y = agg B') (hb : Box w b B) (hB : B.length = 128) (hB' : B'.length = 128)
    (h : ∀ w1, Box w1 b B' → Turn (fun k => k = b) w w1 → w1.heap.size = w.heap.size → wpList Tryz.prog ops Q rest (a.put op.dst undef) w1) : wpList Tryz.prog ops Q (op :: rest) a w := by
  refine wpList_store_mid hgd 63 x y ho b 0 _ hx hy (by simp; rw [hB', ← hB]; exact hb.there) (by rw [sizeBlock]; simp [hB']) (all_oneCell_toArray (bcells_one B')) ?_
  have e : w.setCells b 0 (bcells B').toArray.toList = w.setRow b (bcells B').toArray := by
    rw [setCells_eq_setRow (P := Tryz.prog) hb (by simp [hB, hB']) (bcells_one B')]
    congr 2
    simp [hB, hB']
  rw [e]
  exact h _ hb.setRow ((Turn.refl (fun k => k = b) w).setRow (fun _ => rfl) _) (by simp [World.setRow])

set_option maxRecDepth 10000 in
set_option maxHeartbeats 1000000 in
theorem summed_calls {B : Bytes} (hB : B.length = 128) :
    Calls Tryz.prog 22 #[agg B] w fun e w' => e = .returned (agg (summedB B)) ∧ Turn (fun _ => False) w w' := by
  have hz := fun W => zeroBlock W
  have h1 := box_new w B
  have h2 : Box ((w.alloc (.cells (bcells B).toArray 63)).alloc (.cells (bcells zeros).toArray 63)) w.heap.size B := h1.keep (heap_alloc_lt _ _ _ h1.lt)
  have h3 := box_new (w.alloc (.cells (bcells B).toArray 63)) zeros
  have H := Lib.hid (And.intro h2 (And.intro h3 hB))
  have hlt := sumN_lt B
  have hs := sum_calls (c := 128) h2.range (by omega)
  rw [hB] at hs
  have HS := Lib.hid hs
  obtain ⟨k, hk⟩ : ∃ k, w.heap.size = k := ⟨_, rfl⟩
  have HK := Lib.hid hk
  clear h1 h2 h3 hs hB hk
  go_enter Tryz.func22, Tryz.ntmps22
  go_upto_region 1 with fail
  clear hz
  go_wp2_with fail
  refine HS.out.mono ?_
  rintro e1 w1 ⟨rfl, rfl⟩
  have HP := Lib.hid (put_calls (i := 2) H.out.1 H.out.2.2 (by omega) (show sumN B < 65536 by omega))
  go_wp2_with fail
  refine HP.out.mono ?_
  rintro e2 w2 ⟨rfl, b2, t2, z2⟩
  have b3 : Box w2 (w.heap.size + 1) zeros := by
    have h := H.out.2.1
    have hz := World.size_alloc w (.cells (bcells B).toArray 63)
    rw [hz] at h
    exact h.turn t2 (by omega)
  have H2 := Lib.hid (And.intro b2 (And.intro b3 (And.intro t2 z2)))
  clear b2 b3 t2 z2
  go_wp2_with (first
    | (refine wpList_load_block rfl _ rfl rfl (B := summedB B) (by rw [summedB_length]; exact H.out.2.2) H2.out.1.range ?_)
    | (refine wpList_store_box rfl _ _ rfl rfl rfl H2.out.2.1 (by rfl) (B' := summedB B) (by rw [summedB_length]; exact H.out.2.2) ?_
       intro w3 b3 t3 z3
       have H3 := Lib.hid (And.intro b3 (And.intro t3 z3))
       clear b3 t3 z3))
  refine bodyPost_ret (v := agg (summedB B)) (results_cell_row rfl _ w3 (w.heap.size + 1) _ _ _ _ rfl H3.out.1 Tryz.underlying63 rfl (by rw [sizeBlock]; simp; exact H.out.2.2.symm)) rfl ⟨rfl, ?_⟩
  have t0 : Turn (fun _ => False) w ((w.alloc (.cells (bcells B).toArray 63)).alloc (.cells (bcells zeros).toArray 63)) := ((Turn.refl _ w).alloc _).alloc _
  have t1 := H2.out.2.2.1
  have t3 := H3.out.2.1
  refine ⟨t3.os.trans (t1.os.trans t0.os), t3.tape.trans (t1.tape.trans t0.tape), t3.output.trans (t1.output.trans t0.output), ?_, fun k hk _ => ?_⟩
  · have := H2.out.2.2.2
    have := H3.out.2.2
    simp at *
    omega
  · have e1 := H2.out.2.2.2
    simp at e1
    rw [t3.block k (by omega) (by omega), t1.block k (by simp; omega) (by omega)]
    exact t0.block k hk (fun e => e)
end
end Go.Flr

/-
  data: the numbers of a file's data blocks.
-/
namespace Go.Flr
open Go.Own Go.RowKit Go.Proofs

def ncells (l : List Nat) : List Value := l.map fun (n : Nat) => Value.int .i64 (n : Int)
@[simp] theorem ncells_length (l : List Nat) : (ncells l).length = l.length := by simp [ncells]
theorem ncells_append (a b : List Nat) : ncells (a ++ b) = ncells a ++ ncells b := by simp [ncells]
theorem ncells_one (l : List Nat) : ∀ u ∈ ncells l, u.oneCell' = true := by
  intro u hu
  obtain ⟨x, -, rfl⟩ := List.mem_map.1 hu
  rfl
theorem elemInt : Elem Tryz.prog 3 1 8 (.int .i64 0) := Elem.mk' (by kernel_rfl) rfl (by decide)
theorem ints_form {w : World} {v : Value} {xs : List Value} (h : SliceAt w 3 1 v xs) : ∃ a cap, v = .slice a xs.length cap ∧ xs.length ≤ cap ∧ cap ≤ maxLen := by
  obtain ⟨a, n, cap, rfl, hl, hn, hm, -⟩ := h.form
  rw [Nat.mul_one] at hl
  subst hl
  exact ⟨a, cap, rfl, hn, hm⟩

theorem dataOf_length (B : Bytes) : (dataOf B).length = piecesN (numAt B 35) := by simp [dataOf]
theorem piecesN_le {n : Nat} (h : n ≤ 4920) : piecesN n ≤ 40 := by unfold piecesN; omega
theorem dataOf_snoc (B : Bytes) (i : Nat) (hi : i < piecesN (numAt B 35)) : (dataOf B).take (i + 1) = (dataOf B).take i ++ [numAt B (37 + 2 * i)] := by
  rw [List.take_succ_eq_append_getElem (by rw [dataOf_length]; exact hi)]
  simp [dataOf]

section
variable {w : World}

/-- A slice of its own: newer than w. -/
structure Own1 (w w' : World) (e : TypeId) (v : Value) (xs : List Value) : Prop where
  at_ : SliceAt w' e 1 v xs
  own : ∀ k, v.ownBlock = some k → w.heap.size ≤ k
  turn : Turn (fun _ => False) w w'

def DataI (w : World) (B : Bytes) (N gk : Nat) (ov iv : Value) (wr : World) : Prop :=
  ∃ i, gk + i = N ∧ iv = .int .i64 (i : Nat) ∧ Own1 w wr 3 ov (ncells ((dataOf B).take i))

theorem Own1.snoc {w wr w1 w2 : World} {e : TypeId} {v v' : Value} {xs ys : List Value} (h : Own1 w wr e v xs) (t1 : Turn (fun _ => False) wr w1) (hs : SliceAt w2 e 1 v' (xs ++ ys)) (t2 : Turn (fun k => v.ownBlock = some k) w1 w2)
    (ho : v'.ownBlock = v.ownBlock ∨ v'.ownBlock = some w1.heap.size) : Own1 w w2 e v' (xs ++ ys) := by
  have s0 := h.turn.size
  have s1 := t1.size
  refine ⟨hs, fun k hk => ?_, ?_⟩
  · rcases ho with e | e
    · exact h.own k (e ▸ hk)
    · rw [e] at hk; cases hk; omega
  · have t3 := h.turn.trans t1
    exact ⟨t2.os.trans t3.os, t2.tape.trans t3.tape, t2.output.trans t3.output, Nat.le_trans t3.size t2.size, fun k hk hs' => (t2.block k (by omega) (fun e => by have := h.own k e; omega)).trans (t3.block k hk hs')⟩

set_option maxRecDepth 10000 in
set_option maxHeartbeats 2000000 in
theorem data_calls {b o : Nat} {B : Bytes} (h : w.rangeAt b o (bcells B)) (hB : B.length = 128) (hn : numAt B 35 ≤ 4920) :
    Calls Tryz.prog 69 #[.pointer (some ⟨b, o, none⟩)] w fun e w' => ∃ v, e = .returned v ∧ Own1 w w' 3 v (ncells (dataOf B)) := by
  obtain ⟨N, hN⟩ : ∃ N, piecesN (numAt B 35) = N := ⟨_, rfl⟩
  have hN2 : N ≤ 40 := by rw [← hN]; exact piecesN_le hn
  have hlt : b < w.heap.size := World.block_lt_of_cell? w _ (cell_byte h 0 (by omega))
  have H := Lib.hid (And.intro h (And.intro hB (And.intro hN (And.intro hn hlt))))
  clear h hB hN hn hlt
  go_enter Tryz.func69, Tryz.ntmps69
  go_wp2_with fail
  refine (number_calls (i := 35) H.out.1 H.out.2.1 (by omega)).mono ?_
  rintro e1 w1 ⟨rfl, nq, rfl⟩
  have HP := Lib.hid (pieces_calls (w := w.drewN nq) (numAt B 35) (by have := H.out.2.2.2.1; omega))
  go_wp2_with fail
  refine HP.out.mono ?_
  rintro e2 w2 ⟨rfl, rfl⟩
  rw [H.out.2.2.1]
  have HI := Lib.hid (show DataI w B N N (.slice none 0 0) (.int .i64 0) (w.drewN nq) from ⟨0, rfl, rfl, SliceAt.nil _ _ _, fun k hk => by simp [Value.ownBlock] at hk, turn_drewN (Turn.refl _ w) nq⟩)
  go_wp2_with fail
  go_loopg [3, 8] (N) (fun gk ov iv wr => DataI w B N gk ov iv wr)
  case atStart => exact HI.out
  case round =>
    obtain ⟨i, hgk, rfl, hO⟩ := hrel
    obtain ⟨oa, oc, rfl, -, -⟩ := ints_form hO.at_
    rw [ncells_length] at hO ⊢
    obtain ⟨ol, hol⟩ : ∃ ol, ((dataOf B).take i).length = ol := ⟨_, rfl⟩
    rw [hol] at hO ⊢
    have hr : wr.rangeAt b o (bcells B) := fun j v hv => by
      rw [hO.turn.cell (p := ⟨b, o + j, none⟩) (fun e => e) H.out.2.2.2.2]; exact H.out.1 j v hv
    by_cases hi : i < N
    · have hc := number_calls (i := 37 + 2 * i) hr H.out.2.1 (by omega)
      rw [show ((37 + 2 * i : Nat) : Int) = 37 + 2 * (i : Int) by omega] at hc
      have HC := Lib.hid hc
      have HM := Lib.hid (And.intro hO (And.intro hgk (And.intro hol hr)))
      clear hO hgk hol hr hc
      go_wp2_with fail
      refine HC.out.mono ?_
      rintro e3 w3 ⟨rfl, n3, rfl⟩
      obtain ⟨x, hx⟩ : ∃ x, numAt B (37 + 2 * i) = x := ⟨_, rfl⟩
      rw [hx]
      have HX := Lib.hid hx
      clear hx
      have hE : SliceAt ((wr.drewN n3).alloc (.cells #[.int .i64 (x : Nat)] 3)) 3 1 (.slice oa ol oc) (ncells ((dataOf B).take i)) := HM.out.1.at_.turn ((turn_drewN (Turn.refl (fun _ => False) wr) n3).alloc _) (fun _ _ e => e)
      have hS : Src ((wr.drewN n3).alloc (.cells #[.int .i64 (x : Nat)] 3)) 1 (.slice (some ⟨wr.heap.size, 0, none⟩) 1 1) 1 [.int .i64 (x : Nat)] := Src.one rfl (heap_alloc_new (wr.drewN n3) _)
      have HE := Lib.hid (And.intro hE hS)
      clear hE hS
      go_wp2_with (at_builtin; refine wpList_append _ rfl _ _ 51 51 rfl 3 1 8 (.int .i64 0) Tryz.underlying51 (.inr ⟨_, Tryz.underlying51⟩) elemInt (.slice oa ol oc) _ rfl HE.out.1 _ _ _ rfl HE.out.2 (by intro u hu; simp at hu; subst hu; rfl) (by have := HM.out.2.2.1; have := HM.out.2.1; simp; omega) (by have := HM.out.2.2.1; have := HM.out.2.1; simp; omega) ?_; intro v' w5 hv' ht hw hn; clear hn; obtain ⟨va, vn, vc, rfl, -⟩ := hv'.form; have hF := Lib.hid (And.intro hv' (And.intro ht hw)); clear hv' ht hw)
      have hgk := HM.out.2.1
      go_roundg (gk - 1)
      case rel =>
        have hsn := HM.out.1.snoc (((turn_drewN (Turn.refl (fun _ => False) wr) n3).alloc _)) hF.out.1 hF.out.2.1 hF.out.2.2
        have e : ncells ((dataOf B).take i) ++ [.int .i64 (x : Nat)] = ncells ((dataOf B).take (i + 1)) := by
          rw [dataOf_snoc B i (by rw [H.out.2.2.1]; exact hi), HX.out, ncells_append]; rfl
        rw [e] at hsn
        exact ⟨i + 1, by omega, by rfl, hsn⟩
      case measure => omega
    · have hi2 : (dataOf B).take i = dataOf B := List.take_of_length_le (by rw [dataOf_length, H.out.2.2.1]; omega)
      rw [hi2] at hO
      have HO := Lib.hid hO
      clear hO hi2 hol hr
      go_wp2_with fail
      go_ret
      exact ⟨_, rfl, HO.out⟩
end
end Go.Flr
