/-
  A disk in memory: its struct, its blocks, its log.
-/
import Derived.Test.YtipjapijadgihaaGreatDoorQFlrSummed
set_option linter.unusedVariables false

namespace Go.Flr
open Go.Own Go.RowKit Go.Proofs

/-- The block of a number. -/
def atD (D : List Bytes) (k : Nat) : Bytes := D.getD k zeros
theorem atD_eq {D : List Bytes} {k : Nat} (h : k < D.length) : atD D k = D[k] := by
  unfold atD; rw [List.getD_eq_getElem?_getD, List.getElem?_eq_getElem h]; rfl
theorem atD_set (D : List Bytes) (k : Nat) (B : Bytes) (j : Nat) (h : k < D.length) : atD (D.set k B) j = if j = k then B else atD D j := by
  unfold atD
  rw [List.getD_eq_getElem?_getD, List.getD_eq_getElem?_getD, List.getElem?_set]
  by_cases e : k = j
  · subst e; simp [h]
  · rw [if_neg e, if_neg (fun x => e x.symm)]

def AllLen (D : List Bytes) : Prop := ∀ b ∈ D, b.length = 128
theorem AllLen.at {D : List Bytes} (h : AllLen D) (k : Nat) : (atD D k).length = 128 := by
  by_cases e : k < D.length
  · rw [atD_eq e]; exact h _ (List.getElem_mem e)
  · unfold atD; rw [List.getD_eq_getElem?_getD, List.getElem?_eq_none (by omega)]; rfl
theorem AllLen.set {D : List Bytes} (h : AllLen D) (k : Nat) {B : Bytes} (hB : B.length = 128) : AllLen (D.set k B) := fun b hb => by
  rcases List.mem_or_eq_of_mem_set hb with e | e
  · exact h b e
  · rw [e]; exact hB

def dcells (D : List Bytes) : List Value := D.flatMap bcells
theorem dcells_length : ∀ {D : List Bytes}, AllLen D → (dcells D).length = D.length * 128
  | [], _ => rfl
  | b :: r, h => by
    have := dcells_length (D := r) (fun x hx => h x (List.mem_cons_of_mem _ hx))
    have e := h b (List.mem_cons_self ..)
    unfold dcells at *
    rw [List.flatMap_cons, List.length_append, this, bcells_length, e, List.length_cons]
    omega
theorem dcells_split : ∀ {D : List Bytes} (_ : AllLen D) (k : Nat) (_ : k < D.length), (dcells D).take (k * 128) = dcells (D.take k) ∧ (dcells D).drop (k * 128) = bcells (atD D k) ++ dcells (D.drop (k + 1)) ∧ (dcells D).drop (k * 128 + 128) = dcells (D.drop (k + 1))
  | [], _, k, h => by simp at h
  | b :: r, hl, 0, _ => by
    have e := hl b (List.mem_cons_self ..)
    refine ⟨by simp [dcells], by simp [dcells, atD], ?_⟩
    simp only [dcells, Nat.zero_mul, Nat.zero_add, List.flatMap_cons, List.drop_succ_cons, List.drop_zero]
    have := List.drop_left (l₁ := bcells b) (l₂ := r.flatMap bcells)
    rw [bcells_length, e] at this
    exact this
  | b :: r, hl, k + 1, h => by
    have e := hl b (List.mem_cons_self ..)
    obtain ⟨h1, h2, h3⟩ := dcells_split (D := r) (fun x hx => hl x (List.mem_cons_of_mem _ hx)) k (by simpa using h)
    have el : (bcells b).length = 128 := by rw [bcells_length, e]
    have ek : (k + 1) * 128 = (bcells b).length + k * 128 := by omega
    have ek2 : (k + 1) * 128 + 128 = (bcells b).length + (k * 128 + 128) := by omega
    have ed : dcells (b :: r) = bcells b ++ dcells r := rfl
    refine ⟨?_, ?_, ?_⟩
    · rw [ed, ek, List.take_length_add_append, h1]; rfl
    · rw [ed, ek, List.drop_length_add_append, h2]; rfl
    · rw [ed, ek2, List.drop_length_add_append, h3]; rfl
theorem dcells_get {D : List Bytes} (h : AllLen D) {k : Nat} (hk : k < D.length) {j : Nat} (hj : j < 128) : (dcells D)[k * 128 + j]? = (bcells (atD D k))[j]? := by
  have h2 := (dcells_split h k hk).2.1
  have : ((dcells D).drop (k * 128))[j]? = (bcells (atD D k))[j]? := by
    rw [h2, List.getElem?_append_left (by rw [bcells_length, h.at]; exact hj)]
  rw [List.getElem?_drop] at this
  exact this
theorem dcells_set {D : List Bytes} (h : AllLen D) {k : Nat} (hk : k < D.length) {B : Bytes} (_hB : B.length = 128) :
    (dcells D).take (k * 128) ++ bcells B ++ (dcells D).drop (k * 128 + 128) = dcells (D.set k B) := by
  obtain ⟨h1, h2, h3⟩ := dcells_split h k hk
  rw [h1, h3]
  rw [List.set_eq_take_append_cons_drop, if_pos hk]
  simp [dcells]

/-- The log: what was written, where. -/
def lcells (L : List (Nat × Bytes)) : List Value := L.flatMap fun (x : Nat × Bytes) => Value.int .i64 (x.1 : Int) :: bcells x.2
theorem lcells_append (a b : List (Nat × Bytes)) : lcells (a ++ b) = lcells a ++ lcells b := by simp [lcells]
def LogOk (L : List (Nat × Bytes)) : Prop := ∀ x ∈ L, x.2.length = 128
theorem lcells_length : ∀ {L : List (Nat × Bytes)}, LogOk L → (lcells L).length = L.length * 129
  | [], _ => rfl
  | x :: r, h => by
    have := lcells_length (L := r) (fun y hy => h y (List.mem_cons_of_mem _ hy))
    have e := h x (List.mem_cons_self ..)
    unfold lcells at *
    rw [List.flatMap_cons, List.length_append, this, List.length_cons, bcells_length, e, List.length_cons]
    omega

structure DI (w0 : World) (d g : Nat) (D : List Bytes) (L : List (Nat × Bytes)) (lv : Value) (w : World) : Prop where
  db : w.heap[d]? = some (.cells #[.slice (some ⟨g, 0, none⟩) D.length D.length, lv, .slice none 0 0, .int .i64 0] 61 (0, 0))
  gb : w.heap[g]? = some (.cells (dcells D).toArray 63 (0, 0))
  len : AllLen D
  lo : 16 ≤ D.length
  hi : D.length ≤ 256
  lg : SliceAt w 184 129 lv (lcells L)
  lk : LogOk L
  turn : Turn (fun _ => False) w0 w
  yd : w0.heap.size ≤ d
  yg : w0.heap.size ≤ g
  yl : ∀ k, lv.ownBlock = some k → w0.heap.size ≤ k ∧ k ≠ d ∧ k ≠ g
  dg : d ≠ g
  env : Env w
  e0 : 0 < w0.heap.size

section
variable {w0 w w' w1 : World} {d g : Nat} {D : List Bytes} {L : List (Nat × Bytes)} {lv : Value}

/-- The disk's own blocks. -/
def Dk (d g : Nat) (lv : Value) (k : Nat) : Prop := k = d ∨ k = g ∨ lv.ownBlock = some k
/-- What a call on a disk leaves: only the disk's own blocks, and new ones, have turned. -/
structure DStep (d g : Nat) (w : World) (lv : Value) (w' : World) (lv' : Value) : Prop where
  turn : Turn (Dk d g lv) w w'
  own : ∀ k, Dk d g lv' k → Dk d g lv k ∨ w.heap.size ≤ k
theorem DStep.refl (d g : Nat) (w : World) (lv : Value) : DStep d g w lv w lv := ⟨Turn.refl _ _, fun _ h => .inl h⟩
theorem DStep.trans {d g : Nat} {a b c : World} {x y z : Value} (h : DStep d g a x b y) (k : DStep d g b y c z) : DStep d g a x c z :=
  ⟨⟨k.turn.os.trans h.turn.os, k.turn.tape.trans h.turn.tape, k.turn.output.trans h.turn.output, Nat.le_trans h.turn.size k.turn.size, fun i hi hs => by
      have := h.turn.size
      rw [k.turn.block i (by omega) (fun e => by rcases h.own i e with q | q; exact hs q; omega)]
      exact h.turn.block i hi hs⟩,
   fun i hi => by
      have := h.turn.size
      rcases k.own i hi with q | q
      · exact h.own i q
      · right; omega⟩
theorem DStep.new {d g : Nat} {a b : World} {x : Value} (h : Turn (fun _ => False) a b) : DStep d g a x b x := ⟨h.mono (fun _ _ e => e.elim), fun _ e => .inl e⟩
theorem turn_setCells {b : Nat} : ∀ (vs : List Value) (o : Nat) (w : World), Turn (fun k => k = b) w (w.setCells b o vs)
  | [], _, w => Turn.refl _ w
  | v :: r, o, w => ((Turn.refl (fun k => k = b) w).setCell (fun _ => rfl) v).trans (turn_setCells r (o + 1) _)

/-- What made memory only. -/
theorem DI.new (h : DI w0 d g D L lv w) (ht : Turn (fun _ => False) w w1) : DI w0 d g D L lv w1 :=
  ⟨(ht.block d (heap_lt h.db) (fun e => e)).trans h.db, (ht.block g (heap_lt h.gb) (fun e => e)).trans h.gb, h.len, h.lo, h.hi, h.lg.turn ht (fun _ _ e => e), h.lk, h.turn.trans ht, h.yd, h.yg, h.yl, h.dg, h.env.turn ht (fun e => e), h.e0⟩

/-- What turned only blocks that are none of the disk's. -/
theorem DI.keep {S : Nat → Prop} (h : DI w0 d g D L lv w) (ht : Turn S w w1) (hd : ¬ S d) (hg : ¬ S g) (hl : ∀ k, lv.ownBlock = some k → ¬ S k) (h0 : ∀ k, S k → w0.heap.size ≤ k) : DI w0 d g D L lv w1 :=
  ⟨(ht.block d (heap_lt h.db) hd).trans h.db, (ht.block g (heap_lt h.gb) hg).trans h.gb, h.len, h.lo, h.hi, h.lg.turn ht hl, h.lk,
    ⟨ht.os.trans h.turn.os, ht.tape.trans h.turn.tape, ht.output.trans h.turn.output, Nat.le_trans h.turn.size ht.size, fun k hk _ => by
      have := h.turn.size
      rw [ht.block k (by omega) (fun e => by have := h0 k e; omega)]; exact h.turn.block k hk (fun e => e)⟩,
    h.yd, h.yg, h.yl, h.dg, h.env.turn ht (fun e => by have := h0 0 e; have := h.e0; omega), h.e0⟩
/-- .. a block that is newer than an earlier world in which the disk lay as it does now. -/
theorem DI.keep_new {r : Nat} {wa : World} (ha : DI w0 d g D L lv wa) (h : DI w0 d g D L lv w) (hr : wa.heap.size ≤ r) (ht : Turn (fun k => k = r) w w1) : DI w0 d g D L lv w1 :=
  h.keep ht (fun e => by have := heap_lt ha.db; omega) (fun e => by have := heap_lt ha.gb; omega) (fun k hk e => by have := ha.lg.lt k hk; omega) (fun k e => by have := ha.turn.size; omega)

theorem DI.range (h : DI w0 d g D L lv w) {k : Nat} (hk : k < D.length) : w.rangeAt g (k * 128) (bcells (atD D k)) := fun j v hv => by
  have hj : j < 128 := by have := (List.getElem?_eq_some_iff.1 hv).1; rw [bcells_length, h.len.at] at this; exact this
  refine cell_at h.gb ?_
  rw [List.getElem?_toArray, dcells_get h.len hk hj]
  exact hv
theorem DI.there (h : DI w0 d g D L lv w) {k : Nat} (hk : k < D.length) : w.there g (k * 128) 128 := fun j hj => by
  refine ⟨?_, frozen_at h.gb⟩
  rw [h.range hk j _ (List.getElem?_eq_getElem (by rw [bcells_length, h.len.at]; exact hj))]
  rfl
theorem disk_cells {w : World} {d : Nat} {a b c e : Value} (h : w.heap[d]? = some (.cells #[a, b, c, e] 61 (0, 0))) :
    w.cell? ⟨d, 0, none⟩ = some a ∧ w.cell? ⟨d, 1, none⟩ = some b ∧ w.cell? ⟨d, 2, none⟩ = some c ∧ w.cell? ⟨d, 3, none⟩ = some e ∧ (∀ i, w.frozen? ⟨d, i, none⟩ = false) :=
  ⟨cell_at h rfl, cell_at h rfl, cell_at h rfl, cell_at h rfl, fun _ => frozen_at h⟩
theorem DI.dlt (h : DI w0 d g D L lv w) : d < w.heap.size := heap_lt h.db
theorem DI.glt (h : DI w0 d g D L lv w) : g < w.heap.size := heap_lt h.gb

/-- A block is stored. -/
theorem DI.store (h : DI w0 d g D L lv w) {k : Nat} (hk : k < D.length) {B : Bytes} (hB : B.length = 128) : DI w0 d g (D.set k B) L lv (w.setCells g (k * 128) (bcells B)) := by
  have e := setCells_eq_setRow (P := Tryz.prog) (o := k * 128) (vs := bcells B) h.gb (by simp [dcells_length h.len, hB]; omega) (bcells_one B)
  have e2 : ((dcells D).toArray.toList.take (k * 128) ++ bcells B ++ (dcells D).toArray.toList.drop (k * 128 + (bcells B).length)) = dcells (D.set k B) := by
    rw [bcells_length, hB]; exact dcells_set h.len hk hB
  rw [e2] at e
  rw [e]
  have hg : ∀ k', k' ≠ g → (w.setRow g (dcells (D.set k B)).toArray).heap[k']? = w.heap[k']? := fun k' h' => setRow_other w g k' _ h'
  refine ⟨?_, setRow_heap w g _ _ _ _ h.gb, h.len.set k hB, by simpa using h.lo, by simpa using h.hi, h.lg.keep (fun k' hk' => hg k' (h.yl k' hk').2.2), h.lk, ?_, h.yd, h.yg, h.yl, h.dg, ?_, h.e0⟩
  · rw [hg d h.dg, List.length_set]; exact h.db
  · exact ⟨h.turn.os, h.turn.tape, h.turn.output, by simp [World.setRow]; exact h.turn.size, fun k' hk' _ => by rw [hg k' (by have := h.yg; omega)]; exact h.turn.block k' hk' (fun e => e)⟩
  · have : Turn (fun k => k = g) w (w.setRow g (dcells (D.set k B)).toArray) := (Turn.refl (fun k => k = g) w).setRow (fun _ => rfl) _
    exact h.env.turn this (by have := h.yg; have := h.e0; omega)

/-- The log has grown. -/
theorem DI.log (h : DI w0 d g D L lv w) {v' : Value} {x : Nat × Bytes} (hx : x.2.length = 128) (hs : SliceAt w1 184 129 v' (lcells (L ++ [x]))) (ht : Turn (fun k => lv.ownBlock = some k) w w1) (ho : v'.ownBlock = lv.ownBlock ∨ ∃ k, v'.ownBlock = some k ∧ w.heap.size ≤ k) :
    DI w0 d g D (L ++ [x]) v' (w1.setCell ⟨d, 1, none⟩ v') := by
  have hd1 : w1.heap[d]? = w.heap[d]? := ht.block d h.dlt (fun e => (h.yl d e).2.1 rfl)
  have hg1 : w1.heap[g]? = w.heap[g]? := ht.block g h.glt (fun e => (h.yl g e).2.2 rfl)
  have hyl : ∀ k, v'.ownBlock = some k → w0.heap.size ≤ k ∧ k ≠ d ∧ k ≠ g := fun k hk => by
    rcases ho with e | ⟨k', e, hk'⟩
    · exact h.yl k (e ▸ hk)
    · rw [e] at hk; cases hk
      have := h.dlt; have := h.glt; have := h.turn.size
      exact ⟨by omega, by omega, by omega⟩
  have hset : ∀ k, k ≠ d → (w1.setCell ⟨d, 1, none⟩ v').heap[k]? = w1.heap[k]? := fun k hk => heap_setCell_ne _ hk
  have T1 : Turn (fun _ => False) w0 w1 := ⟨ht.os.trans h.turn.os, ht.tape.trans h.turn.tape, ht.output.trans h.turn.output, Nat.le_trans h.turn.size ht.size, fun k hk _ => by
    have := h.turn.size
    rw [ht.block k (by omega) (fun e => by have := (h.yl k e).1; omega)]; exact h.turn.block k hk (fun e => e)⟩
  refine ⟨?_, ?_, h.len, h.lo, h.hi, hs.keep (fun k hk => hset k (hyl k hk).2.1), ?_, ?_, h.yd, h.yg, hyl, h.dg, ?_, h.e0⟩
  · have := heap_setCell_self (i := 1) v' (hd1.trans h.db)
    rw [this]; rfl
  · rw [hset g (fun e => h.dg e.symm), hg1]; exact h.gb
  · intro y hy
    rcases List.mem_append.1 hy with e | e
    · exact h.lk y e
    · simp at e; rw [e]; exact hx
  · exact T1.setCell (fun (hlt : d < w0.heap.size) => by have := h.yd; omega) v'
  · have e1 := h.env.turn ht (fun e => by have := (h.yl 0 e).1; have := h.e0; omega)
    exact e1.turn ((Turn.refl (fun k => k = d) w1).setCell (fun _ => rfl) v') (by have := h.yd; have := h.e0; omega)
end
end Go.Flr
