/-
  The servers of the law in memory: their block, each one's two slices; beside a kernel.
-/
import Derived.Test.YtcfegaclbkggpaaRndBest
namespace Go.Rnd
open Go.Own Go.RowKit Go.Proofs

/-- A server: what it has to send, what it took, how many packets it made. -/
structure SV where
  sends : List Nat
  took : List Nat
  made : Nat

def nums (l : List Nat) : List Value := l.map fun (n : Nat) => Value.int .i64 (n : Int)
@[simp] theorem nums_length (l : List Nat) : (nums l).length = l.length := by simp [nums]
theorem nums_append (l l' : List Nat) : nums (l ++ l') = nums l ++ nums l' := by simp [nums]

/-- Server i in the cells of the servers' block. -/
def SvAt (σ : Tags) (w : World) (cur : Array Value) (i : Nat) (x : SV) : Prop :=
  ∃ vs vt, cur[i * 3]? = some vs ∧ cur[i * 3 + 1]? = some vt ∧ cur[i * 3 + 2]? = some (.int .i64 x.made) ∧
    SliceT σ (2, (i : Int)) w 3 1 vs (nums x.sends) ∧ SliceT σ (3, (i : Int)) w 3 1 vt (nums x.took)

structure Sv (g : Gh) (σ : Tags) (lb n : Nat) (f : Nat → SV) (w : World) : Prop where
  blk : ∃ cur, w.heap[lb]? = some (.cells cur 34 (0, 0)) ∧ cur.size = n * 3 ∧ ∀ i, i < n → SvAt σ w cur i (f i)
  tl : σ lb = (1, 0)
  fresh : ∀ k, w.heap.size ≤ k → (σ k).1 = 0
  apart : ∀ k, (σ k).1 ≠ 0 → (g.ρ k).1 = 0

/-- Only the kernel's own and the servers' own have turned. -/
structure Step2 (g g' : Gh) (σ σ' : Tags) (w w' : World) : Prop where
  turn : Turn (fun k => (g.ρ k).1 ≠ 0 ∨ (σ k).1 ≠ 0) w w'
  tg : ∀ k, k < w.heap.size → g'.ρ k = g.ρ k
  ts : ∀ k, k < w.heap.size → σ' k = σ k
  k : g'.k = g.k
theorem Step2.refl (g : Gh) (σ : Tags) (w : World) : Step2 g g σ σ w w := ⟨Turn.refl _ _, fun _ _ => rfl, fun _ _ => rfl, rfl⟩
theorem Step2.trans {g g' g'' : Gh} {σ σ' σ'' : Tags} {w w' w'' : World} (h : Step2 g g' σ σ' w w') (k : Step2 g' g'' σ' σ'' w' w'') : Step2 g g'' σ σ'' w w'' := by
  have hs := h.turn.size
  refine ⟨⟨k.turn.os.trans h.turn.os, k.turn.tape.trans h.turn.tape, k.turn.output.trans h.turn.output, Nat.le_trans hs k.turn.size, fun i hi ho => ?_⟩, fun i hi => (k.tg i (by omega)).trans (h.tg i hi), fun i hi => (k.ts i (by omega)).trans (h.ts i hi), k.k.trans h.k⟩
  rw [k.turn.block i (by omega) (by rw [h.tg i hi, h.ts i hi]; exact ho)]
  exact h.turn.block i hi ho
theorem Step2.kern {g g' : Gh} {w w' : World} (σ : Tags) (h : Step g g' w w') : Step2 g g' σ σ w w' := ⟨h.turn.mono fun _ _ e => .inl e, h.tags, fun _ _ => rfl, h.k⟩
theorem Step2.fresh (g : Gh) (σ : Tags) {w w' : World} (h : Turn (fun _ => False) w w') : Step2 g g σ σ w w' := ⟨h.mono fun _ _ e => e.elim, fun _ _ => rfl, fun _ _ => rfl, rfl⟩

section
variable {g g' : Gh} {σ σ' : Tags} {lb n : Nat} {f : Nat → SV} {w w' : World} {K K' : KS}

theorem Sv.lt (h : Sv g σ lb n f w) {k : Nat} (hk : (σ k).1 ≠ 0) : k < w.heap.size := by
  rcases Nat.lt_or_ge k w.heap.size with h' | h'
  · exact h'
  · exact absurd (h.fresh k h') hk

/-- Only the kernel's own has turned. -/
theorem Sv.step (h : Sv g σ lb n f w) (hs : Step g g' w w') : Sv g' σ lb n f w' := by
  have hb : ∀ k, k < w.heap.size → (σ k).1 ≠ 0 → w'.heap[k]? = w.heap[k]? := fun k hk hr => hs.turn.block k hk fun hh => hh (h.apart k hr)
  obtain ⟨cur, h1, h2, h3⟩ := h.blk
  refine ⟨⟨cur, by rw [hb lb (heap_lt h1) (by rw [h.tl]; decide)]; exact h1, h2, fun i hi => ?_⟩, h.tl, fun k hk => h.fresh k (by have := hs.turn.size; omega), fun k hk => ?_⟩
  · obtain ⟨vs, vt, a1, a2, a3, a4, a5⟩ := h3 i hi
    exact ⟨vs, vt, a1, a2, a3, a4.keep (fun k hk hr => hb k hk (by rw [hr]; simp)) (fun _ _ => rfl), a5.keep (fun k hk hr => hb k hk (by rw [hr]; simp)) (fun _ _ => rfl)⟩
  · rw [hs.tags k (h.lt hk)]
    exact h.apart k hk

/-- Nothing of the servers' own has turned. -/
theorem Sv.keep {T : Nat → Prop} (h : Sv g σ lb n f w) (ht : Turn T w w') (hT : ∀ k, k < w.heap.size → T k → (σ k).1 = 0) : Sv g σ lb n f w' := by
  have hb : ∀ k, k < w.heap.size → (σ k).1 ≠ 0 → w'.heap[k]? = w.heap[k]? := fun k hk hr => ht.block k hk fun hh => hr (hT k hk hh)
  obtain ⟨cur, h1, h2, h3⟩ := h.blk
  refine ⟨⟨cur, by rw [hb lb (heap_lt h1) (by rw [h.tl]; decide)]; exact h1, h2, fun i hi => ?_⟩, h.tl, fun k hk => h.fresh k (by have := ht.size; omega), h.apart⟩
  obtain ⟨vs, vt, a1, a2, a3, a4, a5⟩ := h3 i hi
  exact ⟨vs, vt, a1, a2, a3, a4.keep (fun k hk hr => hb k hk (by rw [hr]; simp)) (fun _ _ => rfl), a5.keep (fun k hk hr => hb k hk (by rw [hr]; simp)) (fun _ _ => rfl)⟩
theorem Sv.new (h : Sv g σ lb n f w) (ht : Turn (fun _ => False) w w') : Sv g σ lb n f w' := h.keep ht (fun _ _ hh => hh.elim)

/-- Server i has turned. -/
theorem Sv.set {i : Nat} {x : SV} {cur cur' : Array Value} (h : Sv g σ lb n f w) (R : Rep g K w) (hi : i < n) (ht : Turn (fun k => k = lb ∨ σ k = (2, (i : Int)) ∨ σ k = (3, (i : Int))) w w')
    (hσ : ∀ k, k < w.heap.size → σ' k = σ k) (hf : ∀ k, w'.heap.size ≤ k → (σ' k).1 = 0)
    (hc : w.heap[lb]? = some (.cells cur 34 (0, 0))) (hc' : w'.heap[lb]? = some (.cells cur' 34 (0, 0))) (hz : cur'.size = cur.size)
    (ho : ∀ j, j < i * 3 ∨ i * 3 + 3 ≤ j → cur'[j]? = cur[j]?) (hx : SvAt σ' w' cur' i x) : Sv g σ' lb n (updN f i x) w' ∧ Rep g K w' ∧ Step2 g g σ σ' w w' := by
  obtain ⟨cur0, h1, h2, h3⟩ := h.blk
  obtain rfl : cur0 = cur := by rw [hc] at h1; cases h1; rfl
  have hs0 : ∀ k, k < w.heap.size → (k = lb ∨ σ k = (2, (i : Int)) ∨ σ k = (3, (i : Int))) → (σ k).1 ≠ 0 := fun k _ e => by
    rcases e with rfl | e | e
    · rw [h.tl]; decide
    · rw [e]; simp
    · rw [e]; simp
  have ha : ∀ k, k < w.heap.size → (k = lb ∨ σ k = (2, (i : Int)) ∨ σ k = (3, (i : Int))) → (g.ρ k).1 = 0 := fun k hk e => h.apart k (hs0 k hk e)
  refine ⟨⟨⟨cur', hc', by omega, fun j hj => ?_⟩, (hσ _ (heap_lt hc)).trans h.tl, hf, fun k hk => ?_⟩, R.keep ht ha, ⟨ht.mono fun k hk e => .inr (hs0 k hk e), fun _ _ => rfl, hσ, rfl⟩⟩
  · by_cases e : j = i
    · subst e
      rw [updN_self]
      exact hx
    · rw [updN_ne _ _ e]
      obtain ⟨vs, vt, a1, a2, a3, a4, a5⟩ := h3 j hj
      have hb : ∀ k, k < w.heap.size → (σ k = (2, (j : Int)) ∨ σ k = (3, (j : Int))) → w'.heap[k]? = w.heap[k]? := fun k hk hr => ht.block k hk fun hh => by
        have hji : (j : Int) ≠ i := by omega
        rcases hh with rfl | hh | hh
        · rw [h.tl] at hr; simp at hr
        · rw [hh] at hr; simp at hr; exact hji hr.symm
        · rw [hh] at hr; simp at hr; exact hji hr.symm
      refine ⟨vs, vt, by rw [ho _ (by omega)]; exact a1, by rw [ho _ (by omega)]; exact a2, by rw [ho _ (by omega)]; exact a3, a4.keep (fun k hk hr => hb k hk (.inl hr)) hσ, a5.keep (fun k hk hr => hb k hk (.inr hr)) hσ⟩
  · rcases Nat.lt_or_ge k w.heap.size with h' | h'
    · rw [hσ k h'] at hk
      exact h.apart k hk
    · exact R.fresh k h'

/-- What a walk sees of server i. -/
theorem Sv.at (h : Sv g σ lb n f w) {i : Nat} (hi : i < n) : ∃ vs vt cur, w.heap[lb]? = some (.cells cur 34 (0, 0)) ∧ cur.size = n * 3 ∧ SvAt σ w cur i (f i) ∧
    cur[i * 3]? = some vs ∧ cur[i * 3 + 1]? = some vt ∧ cur[i * 3 + 2]? = some (.int .i64 (f i).made) ∧
    SliceT σ (2, (i : Int)) w 3 1 vs (nums (f i).sends) ∧ SliceT σ (3, (i : Int)) w 3 1 vt (nums (f i).took) ∧
    w.cell? ⟨lb, i * 3, none⟩ = some vs ∧ w.cell? ⟨lb, i * 3 + 1, none⟩ = some vt ∧ w.cell? ⟨lb, i * 3 + 2, none⟩ = some (.int .i64 (f i).made) ∧ (∀ j, w.frozen? ⟨lb, j, none⟩ = false) := by
  obtain ⟨cur, h1, h2, h3⟩ := h.blk
  have h4 := h3 i hi
  obtain ⟨vs, vt, a1, a2, a3, a4, a5⟩ := h4
  exact ⟨vs, vt, cur, h1, h2, h3 i hi, a1, a2, a3, a4, a5, cell_at h1 a1, cell_at h1 a2, cell_at h1 a3, fun _ => frozen_at h1⟩

theorem get_set (cur : Array Value) (k : Nat) (v : Value) (j : Nat) : (cur.setIfInBounds k v)[j]? = if k = j then (if k < cur.size then some v else none) else cur[j]? := Array.getElem?_setIfInBounds

/-- made is written. -/
theorem Sv.set_made (h : Sv g σ lb n f w) (R : Rep g K w) {i m : Nat} (hi : i < n) : Sv g σ lb n (updN f i { f i with made := m }) (w.setCell ⟨lb, i * 3 + 2, none⟩ (.int .i64 m)) ∧ Rep g K (w.setCell ⟨lb, i * 3 + 2, none⟩ (.int .i64 m)) ∧ Step2 g g σ σ w (w.setCell ⟨lb, i * 3 + 2, none⟩ (.int .i64 m)) := by
  obtain ⟨vs, vt, cur, c0, cz, -, c1, c2, c3, c4, c5, -⟩ := h.at hi
  have hne : ∀ k, (σ k).1 ≠ 1 → (w.setCell ⟨lb, i * 3 + 2, none⟩ (.int .i64 m)).heap[k]? = w.heap[k]? := fun k hk => heap_setCell_ne _ (fun e => by rw [e, h.tl] at hk; exact hk rfl)
  refine h.set (cur := cur) (cur' := cur.setIfInBounds (i * 3 + 2) (.int .i64 m)) R hi ((turn_set w lb (i * 3 + 2) _).mono fun _ _ e => .inl e) (fun _ _ => rfl) (fun k hk => h.fresh k (by simpa using hk)) c0 (heap_setCell_self _ c0) (by simp) (fun j hj => ?_) ?_
  · rw [get_set, if_neg (by omega)]
  · refine ⟨vs, vt, by rw [get_set, if_neg (by omega)]; exact c1, by rw [get_set, if_neg (by omega)]; exact c2, by rw [get_set, if_pos rfl, if_pos (by omega)], c4.keep (fun k _ hr => hne k (by rw [hr]; simp)) (fun _ _ => rfl), c5.keep (fun k _ hr => hne k (by rw [hr]; simp)) (fun _ _ => rfl)⟩

/-- sends is written: a slice of the same block. -/
theorem Sv.set_pop (h : Sv g σ lb n f w) (R : Rep g K w) {i : Nat} (hi : i < n) {v : Value} {l : List Nat} (hv : SliceT σ (2, (i : Int)) w 3 1 v (nums l)) :
    Sv g σ lb n (updN f i { f i with sends := l }) (w.setCell ⟨lb, i * 3, none⟩ v) ∧ Rep g K (w.setCell ⟨lb, i * 3, none⟩ v) ∧ Step2 g g σ σ w (w.setCell ⟨lb, i * 3, none⟩ v) := by
  obtain ⟨vs, vt, cur, c0, cz, -, c1, c2, c3, c4, c5, -⟩ := h.at hi
  have hne : ∀ k, (σ k).1 ≠ 1 → (w.setCell ⟨lb, i * 3, none⟩ v).heap[k]? = w.heap[k]? := fun k hk => heap_setCell_ne _ (fun e => by rw [e, h.tl] at hk; exact hk rfl)
  refine h.set (cur := cur) (cur' := cur.setIfInBounds (i * 3) v) R hi ((turn_set w lb (i * 3) _).mono fun _ _ e => .inl e) (fun _ _ => rfl) (fun k hk => h.fresh k (by simpa using hk)) c0 (heap_setCell_self _ c0) (by simp) (fun j hj => ?_) ?_
  · rw [get_set, if_neg (by omega)]
  · refine ⟨v, vt, by rw [get_set, if_pos rfl, if_pos (by omega)], by rw [get_set, if_neg (by omega)]; exact c2, by rw [get_set, if_neg (by omega)]; exact c3, hv.keep (fun k _ hr => hne k (by rw [hr]; simp)) (fun _ _ => rfl), c5.keep (fun k _ hr => hne k (by rw [hr]; simp)) (fun _ _ => rfl)⟩

/-- An append and its store into sends (c = 0) or took (c = 1): w, a block that the append reads, w1 behind the append. -/
theorem Sv.set_app (h : Sv g σ lb n f w) (R : Rep g K w) {i : Nat} (hi : i < n) {w1 : World} {o : Obj} {v v' : Value} {p : Nat} {c : Nat} (hc : c = 0 ∨ c = 1)
    (hv : SliceT σ (if c = 0 then (2, (i : Int)) else (3, (i : Int))) w 3 1 v (nums (if c = 0 then (f i).sends else (f i).took)))
    (hv' : SliceAt w1 3 1 v' (nums (if c = 0 then (f i).sends else (f i).took) ++ [.int .i64 p])) (ht : Turn (fun k => v.ownBlock = some k) (w.alloc o) w1) (hw : v'.ownBlock = v.ownBlock ∨ v'.ownBlock = some (w.alloc o).heap.size) :
    ∃ σ', Sv g σ' lb n (updN f i (if c = 0 then { f i with sends := (f i).sends ++ [p] } else { f i with took := (f i).took ++ [p] })) (w1.setCell ⟨lb, i * 3 + c, none⟩ v') ∧ Rep g K (w1.setCell ⟨lb, i * 3 + c, none⟩ v') ∧ Step2 g g σ σ' w (w1.setCell ⟨lb, i * 3 + c, none⟩ v') := by
  obtain ⟨vs, vt, cur, c0, cz, -, c1, c2, c3, c4, c5, -⟩ := h.at hi
  have hz1 : w.heap.size + 1 ≤ w1.heap.size := by have := ht.size; simpa using this
  obtain ⟨t, ht0⟩ : ∃ t : Tag, (if c = 0 then ((2, (i : Int)) : Tag) else (3, (i : Int))) = t := ⟨_, rfl⟩
  have htag : t = (2, (i : Int)) ∨ t = (3, (i : Int)) := by rw [← ht0]; split <;> simp
  rw [ht0] at hv
  have T1 : Turn (fun k => σ k = t) w w1 := by
    refine (((Turn.refl _ w).alloc o)).trans (ht.mono fun k _ e => ?_)
    exact hv.2 k e
  have T2 : Turn (fun k => k = lb ∨ σ k = t) w (w1.setCell ⟨lb, i * 3 + c, none⟩ v') := (T1.mono fun k _ e => .inr e).setCell (fun _ => .inl rfl) _
  have hlb1 : w1.heap[lb]? = some (.cells cur 34 (0, 0)) := by
    rw [T1.block lb (heap_lt c0) (fun e => by rw [h.tl] at e; rcases htag with r | r <;> rw [r] at e <;> simp at e)]
    exact c0
  have hne : ∀ k, k ≠ lb → (w1.setCell ⟨lb, i * 3 + c, none⟩ v').heap[k]? = w1.heap[k]? := fun k hk => heap_setCell_ne _ hk
  have hlt := heap_lt c0
  obtain ⟨σ', hσ'⟩ : ∃ σ', retag σ w.heap.size w1.heap.size t = σ' := ⟨_, rfl⟩
  have hold : ∀ k, k < w.heap.size → σ' k = σ k := fun k hk => by rw [← hσ']; exact retag_old σ t hk
  have hnew : SliceT σ' t (w1.setCell ⟨lb, i * 3 + c, none⟩ v') 3 1 v' (nums (if c = 0 then (f i).sends else (f i).took) ++ [.int .i64 p]) := by
    have hown : ∀ b, v'.ownBlock = some b → σ' b = t ∧ b ≠ lb := fun b hb => by
      rcases hw with e | e
      · rw [e] at hb
        have hlt := hv.1.lt b hb
        have := hv.2 b hb
        refine ⟨(hold b hlt).trans this, fun e => ?_⟩
        rw [e, h.tl] at this
        rcases htag with r | r <;> rw [r] at this <;> simp at this
      · rw [e] at hb
        have hb := Option.some.inj hb
        have hlt' := hv'.lt b (by rw [e, hb])
        simp only [World.size_alloc] at hb
        refine ⟨by rw [← hσ']; exact retag_new σ t (by omega) hlt', by omega⟩
    exact ⟨hv'.keep fun b hb => hne b (hown b hb).2, fun b hb => (hown b hb).1⟩
  have hother : ∀ (t' : Tag) (u : Value) (xs : List Value), (t' = (2, (i : Int)) ∨ t' = (3, (i : Int))) → t' ≠ t → SliceT σ t' w 3 1 u xs → SliceT σ' t' (w1.setCell ⟨lb, i * 3 + c, none⟩ v') 3 1 u xs := fun t' u xs h1 h2 hs =>
    hs.keep (fun k hk hr => T2.block k hk fun e => by
      rcases e with rfl | e
      · rw [h.tl] at hr; rcases h1 with r | r <;> rw [r] at hr <;> simp at hr
      · exact h2 (hr.symm.trans e)) hold
  refine ⟨σ', h.set (cur := cur) (cur' := cur.setIfInBounds (i * 3 + c) v') R hi (T2.mono fun k _ e => ?_) hold (fun k hk => ?_) c0 (heap_setCell_self _ hlb1) (by simp) (fun j hj => ?_) ?_⟩
  · rcases e with e | e
    · exact .inl e
    · rcases htag with r | r
      · exact .inr (.inl (e.trans r))
      · exact .inr (.inr (e.trans r))
  · have hk' : w1.heap.size ≤ k := by simpa using hk
    rw [← hσ', retag_fresh hk']
    exact h.fresh k (by omega)
  · rw [get_set, if_neg (by omega)]
  · rcases hc with rfl | rfl
    · simp only [if_true] at ht0 hnew ⊢
      refine ⟨v', vt, by rw [get_set, if_pos (by omega), if_pos (by omega)], by rw [get_set, if_neg (by omega)]; exact c2, by rw [get_set, if_neg (by omega)]; exact c3, ?_, hother _ _ _ (.inr rfl) (by rw [← ht0]; simp) c5⟩
      rw [nums_append, ht0]
      exact hnew
    · have e0 : ((1 : Nat) = 0) = False := by simp
      simp only [e0, if_false] at ht0 hnew ⊢
      refine ⟨vs, v', by rw [get_set, if_neg (by omega)]; exact c1, by rw [get_set, if_pos (by omega), if_pos (by omega)], by rw [get_set, if_neg (by omega)]; exact c3, hother _ _ _ (.inl rfl) (by rw [← ht0]; simp) c4, ?_⟩
      rw [nums_append, ht0]
      exact hnew
/-- Behind an append to a server's slice the servers' block is as it was. -/
theorem Sv.app_cells (h : Sv g σ lb n f w) {w1 : World} {o : Obj} {v : Value} {xs : List Value} {t : Tag} (ht0 : t.1 ≠ 1) (hv : SliceT σ t w 3 1 v xs) (ht : Turn (fun k => v.ownBlock = some k) (w.alloc o) w1) :
    (∀ j, w1.cell? ⟨lb, j, none⟩ = w.cell? ⟨lb, j, none⟩) ∧ ∀ j, w1.frozen? ⟨lb, j, none⟩ = false := by
  obtain ⟨cur, c0, -⟩ := h.blk
  have hlt := heap_lt c0
  have hb : w1.heap[lb]? = w.heap[lb]? := by
    rw [ht.block lb (by simp; omega) (fun e => ht0 (by rw [← hv.2 lb e, h.tl]))]
    exact heap_alloc_lt w o lb hlt
  refine ⟨fun j => ?_, fun j => frozen_at (hb.trans c0)⟩
  simp only [World.cell?, hb]
end
end Go.Rnd
