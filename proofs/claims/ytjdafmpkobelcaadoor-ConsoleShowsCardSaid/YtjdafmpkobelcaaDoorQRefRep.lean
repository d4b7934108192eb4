/-
  How the reference's console lies in memory, told by the same state CS: one block of 207 cells (the line, three numbers, what waits, 100 flags, 100 lines of the tasks, the screen), its slices.
-/
import Derived.Test.YtjdafmpkobelcaaDoorQConArg
import Derived.Test.YtjdafmpkobelcaaDoorQConPure1
set_option linter.unusedVariables false

namespace Go.Con
open Go.Own Go.RowKit Go.Proofs

structure RG where
  g : Ghost
  wv : Value
  wt : List Ln
  ov : Nat → Value
  bg : Bool

def rcell (r : RG) (S : CS) (j : Nat) : Value :=
  if j = 0 then r.g.tv else if j = 1 then .int .i64 (if r.bg = true then S.chosen else 0) else if j = 2 then .int .i64 (if r.bg = true then (if S.typing = true then S.digits else -1) else 0) else if j = 3 then r.wv
  else if j < 104 then .int .i64 (S.flags ((j - 4 : Nat) : Int)) else if j < 204 then r.ov (j - 104) else if j = 204 then .int .i64 (if r.bg = true then S.last else 0) else if j = 205 then r.g.sv else .bool r.bg

def rcells (r : RG) (S : CS) : Array Value := Array.ofFn (n := 207) fun i => rcell r S i

theorem rcells_get (r : RG) (S : CS) (i : Nat) (h : i < 207) : (rcells r S)[i]? = some (rcell r S i) := by
  simp [rcells, h]

theorem rcells_set (r r' : RG) (S S' : CS) (i : Nat) (v : Value) (hv : rcell r' S' i = v) (ho : ∀ j, j ≠ i → rcell r S j = rcell r' S' j) : (rcells r S).setIfInBounds i v = rcells r' S' := by
  apply Array.ext_getElem?
  intro j
  rw [Array.getElem?_setIfInBounds]
  by_cases h : j < 207
  · rw [rcells_get _ _ _ h, rcells_get _ _ _ h]
    by_cases e : i = j
    · subst e; rw [if_pos rfl, if_pos (by simpa [rcells] using h), hv]
    · rw [if_neg e, ho j (fun x => e x.symm)]
  · rw [Array.getElem?_eq_none (by simp [rcells]; omega), Array.getElem?_eq_none (by simp [rcells]; omega)]
    by_cases e : i = j
    · rw [if_pos e, if_neg (by simp [rcells]; omega)]
    · rw [if_neg e]

structure RRep (r : RG) (S : CS) (w : World) : Prop where
  blk : w.heap[r.g.c]? = some (.cells (rcells r S) 48 (0, 0))
  tc : r.g.ρ r.g.c = (1, 0)
  fresh : ∀ k, w.heap.size ≤ k → (r.g.ρ k).1 = 0
  typed : SliceT r.g.ρ (2, 0) w 5 1 r.g.tv (bcells S.typed)
  screen : SliceT r.g.ρ (3, 0) w 5 1 r.g.sv (bcells S.screen)
  waiting : SliceT r.g.ρ (4, 0) w 68 2 r.wv (lcells r.wt)
  own : ∀ k : Nat, SliceT r.g.ρ (8, k) w 5 1 (r.ov k) (bcells (S.out k))
  lines : ∀ k, S.lines k = textsOf k r.wt
  two : r.bg = true → S.typing = true → S.digits ≠ 0 → S.chosen = S.number
  nb : r.bg = false → S.chosen = 1 ∧ S.typing = false ∧ S.last = 1

section
variable {r : RG} {S : CS} {w w' : World}

theorem RRep.lt (h : RRep r S w) {k : Nat} (hk : (r.g.ρ k).1 ≠ 0) : k < w.heap.size := by
  rcases Nat.lt_or_ge k w.heap.size with h' | h'
  · exact h'
  · exact absurd (h.fresh k h') hk

/-- Nothing of the console's own has turned. -/
theorem RRep.keep {T : Nat → Prop} (h : RRep r S w) (ht : Turn T w w') (hT : ∀ k, k < w.heap.size → T k → (r.g.ρ k).1 = 0) : RRep r S w' := by
  have hb : ∀ k, k < w.heap.size → (r.g.ρ k).1 ≠ 0 → w'.heap[k]? = w.heap[k]? := fun k hk hr => ht.block k hk fun hh => hr (hT k hk hh)
  have hs : ∀ {t : Tag} {e : TypeId} {sz : Nat} {v : Value} {xs : List Value}, t.1 ≠ 0 → SliceT r.g.ρ t w e sz v xs → SliceT r.g.ρ t w' e sz v xs :=
    fun htt hh => hh.keep (fun k hk hr => hb k hk (by rw [hr]; exact htt)) (fun _ _ => rfl)
  exact { blk := by rw [hb r.g.c (heap_lt h.blk) (by rw [h.tc]; decide)]; exact h.blk
          tc := h.tc
          fresh := fun k hk => h.fresh k (by have := ht.size; omega)
          typed := hs (by decide) h.typed, screen := hs (by decide) h.screen, waiting := hs (by decide) h.waiting
          own := fun k => hs (by show (8 : Nat) ≠ 0; decide) (h.own k), lines := h.lines, two := h.two, nb := h.nb }

theorem RRep.drew (h : RRep r S w) : RRep r S w.drew := h.keep (T := fun _ => False) ((Turn.refl _ _).drew) (fun _ _ h => h.elim)
theorem RRep.alloc (h : RRep r S w) (o : Obj) : RRep r S (w.alloc o) := h.keep (T := fun _ => False) ((Turn.refl _ _).alloc o) (fun _ _ h => h.elim)

/-- The block is written anew, and the rows of the tag t0. -/
theorem RRep.block {r' : RG} {S' : CS} (h : RRep r S w) (t0 : Tag) (ht : Turn (fun k => k = r.g.c ∨ r.g.ρ k = t0) w w')
    (hr : ∀ k, k < w.heap.size → r'.g.ρ k = r.g.ρ k) (hf : ∀ k, w'.heap.size ≤ k → (r'.g.ρ k).1 = 0) (hc : r'.g.c = r.g.c)
    (hb : w'.heap[r.g.c]? = some (.cells (rcells r' S') 48 (0, 0)))
    (h2 : (t0 ≠ (2, 0) ∧ r'.g.tv = r.g.tv ∧ S'.typed = S.typed) ∨ SliceT r'.g.ρ (2, 0) w' 5 1 r'.g.tv (bcells S'.typed))
    (h3 : (t0 ≠ (3, 0) ∧ r'.g.sv = r.g.sv ∧ S'.screen = S.screen) ∨ SliceT r'.g.ρ (3, 0) w' 5 1 r'.g.sv (bcells S'.screen))
    (h4 : (t0 ≠ (4, 0) ∧ r'.wv = r.wv ∧ r'.wt = r.wt) ∨ SliceT r'.g.ρ (4, 0) w' 68 2 r'.wv (lcells r'.wt))
    (h8 : ∀ k : Nat, (t0 ≠ ((8, (k : Int)) : Tag) ∧ r'.ov k = r.ov k ∧ S'.out k = S.out k) ∨ SliceT r'.g.ρ (8, k) w' 5 1 (r'.ov k) (bcells (S'.out k)))
    (hl : ∀ k, S'.lines k = textsOf k r'.wt) (h10 : r'.bg = true → S'.typing = true → S'.digits ≠ 0 → S'.chosen = S'.number) (h11 : r'.bg = false → S'.chosen = 1 ∧ S'.typing = false ∧ S'.last = 1) : RRep r' S' w' := by
  have hs : ∀ {t : Tag} {e : TypeId} {sz : Nat} {v : Value} {xs : List Value}, t ≠ (1, 0) → t0 ≠ t → SliceT r.g.ρ t w e sz v xs → SliceT r'.g.ρ t w' e sz v xs :=
    fun a b hh => hh.keep (fun k hk hq => ht.block k hk (fun hh => by rcases hh with rfl | hh; exact a (hq.symm.trans h.tc); exact b (hh.symm.trans hq))) hr
  exact { blk := by rw [hc]; exact hb
          tc := by rw [hc, hr _ (heap_lt h.blk)]; exact h.tc
          fresh := hf
          typed := h2.elim (fun ⟨a, b, c⟩ => by rw [b, c]; exact hs (by decide) a h.typed) id
          screen := h3.elim (fun ⟨a, b, c⟩ => by rw [b, c]; exact hs (by decide) a h.screen) id
          waiting := h4.elim (fun ⟨a, b, c⟩ => by rw [b, c]; exact hs (by decide) a h.waiting) id
          own := fun k => (h8 k).elim (fun ⟨a, b, c⟩ => by rw [b, c]; exact hs (by intro e; cases e) a (h.own k)) id
          lines := hl, two := h10, nb := h11 }

theorem RRep.step_set (h : RRep r S w) (i : Nat) (v : Value) (g' : Ghost) (hg : g'.ρ = r.g.ρ) (hc : g'.c = r.g.c) : Step r.g g' w (w.setCell ⟨r.g.c, i, none⟩ v) :=
  ⟨(Turn.refl _ w).setCell (fun _ => by show (r.g.ρ r.g.c).1 ≠ 0; rw [h.tc]; decide) v, fun k _ => by rw [hg], hc⟩

/-- A cell that is no slice is written. -/
theorem RRep.scalar {r' : RG} {S' : CS} (h : RRep r S w) (i : Nat) (v : Value) (hg : r'.g = r.g) (hw : r'.wv = r.wv ∧ r'.wt = r.wt ∧ r'.ov = r.ov)
    (hS : S'.typed = S.typed ∧ S'.screen = S.screen ∧ S'.out = S.out ∧ S'.lines = S.lines) (hv : rcell r' S' i = v) (ho : ∀ j, j ≠ i → rcell r S j = rcell r' S' j)
    (h10 : r'.bg = true → S'.typing = true → S'.digits ≠ 0 → S'.chosen = S'.number) (h11 : r'.bg = false → S'.chosen = 1 ∧ S'.typing = false ∧ S'.last = 1) : RRep r' S' (w.setCell ⟨r.g.c, i, none⟩ v) ∧ Step r.g r'.g w (w.setCell ⟨r.g.c, i, none⟩ v) := by
  obtain ⟨s1, s2, s3, s4⟩ := hS
  obtain ⟨w1, w2, w3⟩ := hw
  refine ⟨h.block (0, 0) ((Turn.refl _ w).setCell (fun _ => .inl rfl) v) (fun _ _ => by rw [hg]) (by rw [hg]; simpa using h.fresh) (by rw [hg]) ?_ (.inl ⟨by decide, by rw [hg], s1⟩) (.inl ⟨by decide, by rw [hg], s2⟩) (.inl ⟨by decide, w1, w2⟩) (fun k => .inl ⟨(by intro e; cases e), by rw [w3], by rw [s3]⟩) (fun k => by rw [s4, w2]; exact h.lines k) h10 h11, h.step_set i v r'.g (by rw [hg]) (by rw [hg])⟩
  rw [heap_setCell_self v h.blk, rcells_set r r' S S' i v hv ho]

/-- The typed line is another slice of the same row, or nil. -/
theorem RRep.set_typed (h : RRep r S w) (v : Value) (t : Bytes) (hv : SliceT r.g.ρ (2, 0) w 5 1 v (bcells t)) :
    RRep { r with g := { r.g with tv := v } } { S with typed := t } (w.setCell ⟨r.g.c, 0, none⟩ v) ∧ Step r.g { r.g with tv := v } w (w.setCell ⟨r.g.c, 0, none⟩ v) := by
  have ht : Turn (fun k => k = r.g.c ∨ r.g.ρ k = (0, 0)) w (w.setCell ⟨r.g.c, 0, none⟩ v) := (Turn.refl _ w).setCell (fun _ => .inl rfl) v
  refine ⟨h.block (0, 0) ht (fun _ _ => rfl) (by simpa using h.fresh) rfl ?_ (.inr ?_) (.inl ⟨by decide, rfl, rfl⟩) (.inl ⟨by decide, rfl, rfl⟩) (fun k => .inl ⟨(by intro e; cases e), rfl, rfl⟩) h.lines h.two h.nb, h.step_set 0 v _ rfl rfl⟩
  · rw [heap_setCell_self v h.blk, rcells_set r { r with g := { r.g with tv := v } } S { S with typed := t } 0 v rfl (fun j hj => by unfold rcell; simp only [if_neg hj])]
  · exact hv.keep (fun k hk hr => heap_setCell_ne v (fun e => by have h1 : k = r.g.c := e; rw [h1, h.tc] at hr; cases hr)) (fun _ _ => rfl)

/-- An append to one of the console's slices, and the store of the slice: what is common to all of them. -/
theorem RRep.grow {w1 : World} {v v' : Value} {t0 : Tag} {e : TypeId} {sz : Nat} {xs ys : List Value} (h : RRep r S w) (hv : SliceT r.g.ρ t0 w e sz v xs) (h0 : t0 ≠ (1, 0)) (h1 : t0.1 ≠ 0) (ht : Turn (fun k => v.ownBlock = some k) w w1)
    (hs : SliceAt w1 e sz v' ys) (hw : v'.ownBlock = v.ownBlock ∨ v'.ownBlock = some w.heap.size) (i : Nat) {r' : RG} {S' : CS} (hr' : r'.g.ρ = retag r.g.ρ w.heap.size w1.heap.size t0) (hc' : r'.g.c = r.g.c)
    (hv' : rcell r' S' i = v') (ho : ∀ j, j ≠ i → rcell r S j = rcell r' S' j) :
    Turn (fun k => k = r.g.c ∨ r.g.ρ k = t0) w (w1.setCell ⟨r.g.c, i, none⟩ v') ∧ (∀ k, k < w.heap.size → r'.g.ρ k = r.g.ρ k) ∧ (∀ k, (w1.setCell ⟨r.g.c, i, none⟩ v').heap.size ≤ k → (r'.g.ρ k).1 = 0) ∧
    (w1.setCell ⟨r.g.c, i, none⟩ v').heap[r.g.c]? = some (.cells (rcells r' S') 48 (0, 0)) ∧ SliceT r'.g.ρ t0 (w1.setCell ⟨r.g.c, i, none⟩ v') e sz v' ys ∧ Step r.g r'.g w (w1.setCell ⟨r.g.c, i, none⟩ v') := by
  have hc := heap_lt h.blk
  have hcne : ¬ v.ownBlock = some r.g.c := fun e => h0 (by have := hv.2 _ e; rw [h.tc] at this; exact this.symm)
  have hb1 : w1.heap[r.g.c]? = some (.cells (rcells r S) 48 (0, 0)) := by rw [ht.block r.g.c hc hcne]; exact h.blk
  have t1 : Turn (fun k => k = r.g.c ∨ r.g.ρ k = t0) w (w1.setCell ⟨r.g.c, i, none⟩ v') := (ht.mono (fun k _ hk => .inr (hv.2 k hk))).setCell (fun _ => .inl rfl) v'
  have hz : (w1.setCell ⟨r.g.c, i, none⟩ v').heap.size = w1.heap.size := by simp
  have old : ∀ k, k < w.heap.size → r'.g.ρ k = r.g.ρ k := fun k hk => by rw [hr']; exact retag_old r.g.ρ _ hk
  have g2 := hv.grown hs hw
  rw [← hr'] at g2
  refine ⟨t1, old, fun k hk => ?_, ?_, g2.keep (fun k hk hr => heap_setCell_ne v' (fun e => ?_)) (fun _ _ => rfl), ⟨t1.mono fun k _ hk => ?_, old, hc'⟩⟩
  · rw [hz] at hk
    rw [hr']
    unfold retag
    rw [if_neg (by omega)]
    exact h.fresh k (by have := ht.size; omega)
  · rw [heap_setCell_self v' hb1, rcells_set r r' S S' i v' hv' ho]
  · have h2 : k = r.g.c := e
    rw [h2, old _ hc, h.tc] at hr
    exact h0 hr.symm
  · rcases hk with rfl | hk
    · rw [h.tc]; decide
    · rw [hk]; exact h1

theorem RRep.append_typed {w1 : World} {v' : Value} {t : Bytes} (h : RRep r S w) (ht : Turn (fun k => r.g.tv.ownBlock = some k) w w1) (h1 : SliceAt w1 5 1 v' (bcells t)) (hw : v'.ownBlock = r.g.tv.ownBlock ∨ v'.ownBlock = some w.heap.size) :
    RRep { r with g := { r.g with tv := v', ρ := retag r.g.ρ w.heap.size w1.heap.size (2, 0) } } { S with typed := t } (w1.setCell ⟨r.g.c, 0, none⟩ v') ∧ Step r.g { r.g with tv := v', ρ := retag r.g.ρ w.heap.size w1.heap.size (2, 0) } w (w1.setCell ⟨r.g.c, 0, none⟩ v') := by
  obtain ⟨a, b, c, d, e, f⟩ := h.grow h.typed (by decide) (by decide) ht h1 hw 0 (r' := { r with g := { r.g with tv := v', ρ := retag r.g.ρ w.heap.size w1.heap.size (2, 0) } }) (S' := { S with typed := t }) rfl rfl rfl (fun j hj => by unfold rcell; simp only [if_neg hj])
  exact ⟨h.block (2, 0) a b c rfl d (.inr e) (.inl ⟨by decide, rfl, rfl⟩) (.inl ⟨by decide, rfl, rfl⟩) (fun k => .inl ⟨(by intro e; cases e), rfl, rfl⟩) h.lines h.two h.nb, f⟩

theorem RRep.append_screen {w1 : World} {v' : Value} {t : Bytes} (h : RRep r S w) (ht : Turn (fun k => r.g.sv.ownBlock = some k) w w1) (h1 : SliceAt w1 5 1 v' (bcells t)) (hw : v'.ownBlock = r.g.sv.ownBlock ∨ v'.ownBlock = some w.heap.size) :
    RRep { r with g := { r.g with sv := v', ρ := retag r.g.ρ w.heap.size w1.heap.size (3, 0) } } { S with screen := t } (w1.setCell ⟨r.g.c, 205, none⟩ v') ∧ Step r.g { r.g with sv := v', ρ := retag r.g.ρ w.heap.size w1.heap.size (3, 0) } w (w1.setCell ⟨r.g.c, 205, none⟩ v') := by
  obtain ⟨a, b, c, d, e, f⟩ := h.grow h.screen (by decide) (by decide) ht h1 hw 205 (r' := { r with g := { r.g with sv := v', ρ := retag r.g.ρ w.heap.size w1.heap.size (3, 0) } }) (S' := { S with screen := t }) rfl rfl rfl (fun j hj => by unfold rcell; simp only [if_neg hj])
  exact ⟨h.block (3, 0) a b c rfl d (.inl ⟨by decide, rfl, rfl⟩) (.inr e) (.inl ⟨by decide, rfl, rfl⟩) (fun k => .inl ⟨(by intro e; cases e), rfl, rfl⟩) h.lines h.two h.nb, f⟩

theorem RRep.append_waiting {w1 : World} {v' : Value} {t : List Ln} {L : Int → List Bytes} (h : RRep r S w) (ht : Turn (fun k => r.wv.ownBlock = some k) w w1) (h1 : SliceAt w1 68 2 v' (lcells t)) (hw : v'.ownBlock = r.wv.ownBlock ∨ v'.ownBlock = some w.heap.size)
    (hL : ∀ k, L k = textsOf k t) :
    RRep { r with g := { r.g with ρ := retag r.g.ρ w.heap.size w1.heap.size (4, 0) }, wv := v', wt := t } { S with lines := L } (w1.setCell ⟨r.g.c, 3, none⟩ v') ∧ Step r.g { r.g with ρ := retag r.g.ρ w.heap.size w1.heap.size (4, 0) } w (w1.setCell ⟨r.g.c, 3, none⟩ v') := by
  obtain ⟨a, b, c, d, e, f⟩ := h.grow h.waiting (by decide) (by decide) ht h1 hw 3 (r' := { r with g := { r.g with ρ := retag r.g.ρ w.heap.size w1.heap.size (4, 0) }, wv := v', wt := t }) (S' := { S with lines := L }) rfl rfl rfl (fun j hj => by unfold rcell; simp only [if_neg hj])
  exact ⟨h.block (4, 0) a b c rfl d (.inl ⟨by decide, rfl, rfl⟩) (.inl ⟨by decide, rfl, rfl⟩) (.inr e) (fun k => .inl ⟨(by intro e; cases e), rfl, rfl⟩) hL h.two h.nb, f⟩

theorem rblock_cells {c : Nat} (hb : w.heap[c]? = some (.cells (rcells r S) 48 (0, 0))) : ∀ i, i < 207 → w.cell? ⟨c, i, none⟩ = some (rcell r S i) := fun i hi => cell_at hb (rcells_get r S i hi)

theorem RRep.typed_form (h : RRep r S w) : ∃ a cap, r.g.tv = .slice a S.typed.length cap ∧ S.typed.length ≤ cap ∧ SliceAt w 5 1 (.slice a S.typed.length cap) (bcells S.typed) := by
  obtain ⟨a, n, cap, hv, hl, hn, _, _⟩ := h.typed.1.form
  rw [bcells_length, Nat.mul_one] at hl
  subst hl
  exact ⟨a, cap, hv, hn, by rw [← hv]; exact h.typed.1⟩

theorem RRep.screen_ne (h : RRep r S w) : ¬ r.g.sv.ownBlock = some r.g.c := fun e => by have := h.screen.2 _ e; rw [h.tc] at this; cases this
theorem RRep.typed_ne (h : RRep r S w) : ¬ r.g.tv.ownBlock = some r.g.c := fun e => by have := h.typed.2 _ e; rw [h.tc] at this; cases this
theorem RRep.waiting_ne (h : RRep r S w) : ¬ r.wv.ownBlock = some r.g.c := fun e => by have := h.waiting.2 _ e; rw [h.tc] at this; cases this
theorem RRep.block_after {T : Nat → Prop} (h : RRep r S w) (ht : Turn T w w') (hT : ¬ T r.g.c) : w'.heap[r.g.c]? = some (.cells (rcells r S) 48 (0, 0)) := by
  rw [ht.block r.g.c (heap_lt h.blk) hT]; exact h.blk
end
end Go.Con
