/-
  How a console lies in memory: its block of ten cells, two slices, three maps; which of the blocks are its own (tags); what each of Go's stores makes of it.
-/
import Derived.Test.YtjdafmpkobelcaaDoorQConModel
import Derived.Test.YtjdafmpkobelcaaDoorRows
set_option linter.unusedVariables false

namespace Go.Con
open Go.Own Go.RowKit

def nilSlice : Value := .slice none 0 0

def SliceT (ρ : Tags) (t : Tag) (w : World) (e : TypeId) (sz : Nat) (v : Value) (xs : List Value) : Prop := SliceAt w e sz v xs ∧ ∀ b, v.ownBlock = some b → ρ b = t

structure Ghost where
  c : Nat
  ml : Nat
  mf : Nat
  mo : Nat
  tv : Value
  sv : Value
  fl : Int → Option Value
  ff : Int → Option Value
  fo : Int → Option Value
  ρ : Tags

def conCells (g : Ghost) (S : CS) : Array Value :=
  #[g.tv, .int .i64 S.chosen, .bool S.typing, .int .i64 S.digits, .int .i64 S.number, .map (some g.ml), .map (some g.mf), .map (some g.mo), .int .i64 S.last, g.sv]

structure Rep (g : Ghost) (S : CS) (w : World) : Prop where
  blk : w.heap[g.c]? = some (.cells (conCells g S) 58 (0, 0))
  tc : g.ρ g.c = (1, 0)
  tl : g.ρ g.ml = (4, 0)
  tf : g.ρ g.mf = (5, 0)
  tot : g.ρ g.mo = (6, 0)
  fresh : ∀ k, w.heap.size ≤ k → (g.ρ k).1 = 0
  typed : SliceT g.ρ (2, 0) w 5 1 g.tv (bcells S.typed)
  screen : SliceT g.ρ (3, 0) w 5 1 g.sv (bcells S.screen)
  lines : MapAt w g.ml g.fl
  linesv : ∀ k, SliceT g.ρ (7, k) w 9 1 ((g.fl k).getD nilSlice) (scells (S.lines k))
  flags : MapAt w g.mf g.ff
  flagsv : ∀ k, (g.ff k).getD (.int .i64 0) = .int .i64 (S.flags k)
  out : MapAt w g.mo g.fo
  outv : ∀ k, SliceT g.ρ (8, k) w 5 1 ((g.fo k).getD nilSlice) (bcells (S.out k))

/-- What a call on a console leaves: only the console's own blocks have turned; the tags of what was there stand. -/
structure Step (g g' : Ghost) (w w' : World) : Prop where
  turn : Turn (fun k => (g.ρ k).1 ≠ 0) w w'
  tags : ∀ k, k < w.heap.size → g'.ρ k = g.ρ k
  c : g'.c = g.c

theorem Step.refl (g : Ghost) (w : World) : Step g g w w := ⟨Turn.refl _ _, fun _ _ => rfl, rfl⟩
theorem Step.trans {g g' g'' : Ghost} {w w' w'' : World} (h : Step g g' w w') (k : Step g' g'' w' w'') : Step g g'' w w'' := by
  have hs := h.turn.size
  refine ⟨⟨k.turn.os.trans h.turn.os, k.turn.tape.trans h.turn.tape, k.turn.output.trans h.turn.output, Nat.le_trans hs k.turn.size, fun i hi ho => ?_⟩, fun i hi => (k.tags i (by omega)).trans (h.tags i hi), k.c.trans h.c⟩
  rw [k.turn.block i (by omega) (by rw [h.tags i hi]; exact ho)]
  exact h.turn.block i hi ho
theorem Step.drew {g g' : Ghost} {w w' : World} (h : Step g g' w w') : Step g g' w w'.drew := ⟨h.turn.drew, h.tags, h.c⟩

theorem Step.alloc {g g' : Ghost} {w w' : World} (h : Step g g' w w') (o : Obj) : Step g g' w (w'.alloc o) := ⟨h.turn.alloc o, h.tags, h.c⟩

theorem SliceT.keep {ρ ρ' : Tags} {t : Tag} {w w' : World} {e : TypeId} {sz : Nat} {v : Value} {xs : List Value} (h : SliceT ρ t w e sz v xs)
    (hb : ∀ k, k < w.heap.size → ρ k = t → w'.heap[k]? = w.heap[k]?) (hr : ∀ k, k < w.heap.size → ρ' k = ρ k) : SliceT ρ' t w' e sz v xs :=
  ⟨h.1.keep fun k hk => hb k (h.1.lt k hk) (h.2 k hk), fun k hk => (hr k (h.1.lt k hk)).trans (h.2 k hk)⟩
theorem SliceT.nil (ρ : Tags) (t : Tag) (w : World) (e : TypeId) (sz : Nat) : SliceT ρ t w e sz nilSlice [] := ⟨SliceAt.nil w e sz, fun b hb => by simp [nilSlice, Value.ownBlock] at hb⟩

/-- Blocks from m to n - 1 get the tag t. -/
def retag (ρ : Tags) (m n : Nat) (t : Tag) : Tags := fun k => if m ≤ k ∧ k < n then t else ρ k
theorem retag_old (ρ : Tags) {m n : Nat} (t : Tag) {k : Nat} (h : k < m) : retag ρ m n t k = ρ k := by unfold retag; rw [if_neg (by omega)]
theorem retag_new (ρ : Tags) {m n : Nat} (t : Tag) {k : Nat} (h : m ≤ k) (h' : k < n) : retag ρ m n t k = t := by unfold retag; rw [if_pos ⟨h, h'⟩]

section
variable {g : Ghost} {S : CS} {w w' : World}

theorem Rep.lt (h : Rep g S w) {k : Nat} (hk : (g.ρ k).1 ≠ 0) : k < w.heap.size := by
  rcases Nat.lt_or_ge k w.heap.size with h' | h'
  · exact h'
  · exact absurd (h.fresh k h') hk

/-- Nothing of the console's own has turned. -/
theorem Rep.keep {T : Nat → Prop} (h : Rep g S w) (ht : Turn T w w') (hT : ∀ k, k < w.heap.size → T k → (g.ρ k).1 = 0) : Rep g S w' := by
  have hb : ∀ k, k < w.heap.size → (g.ρ k).1 ≠ 0 → w'.heap[k]? = w.heap[k]? := fun k hk hr => ht.block k hk fun hh => hr (hT k hk hh)
  have hs : ∀ {t : Tag} {e : TypeId} {sz : Nat} {v : Value} {xs : List Value}, t.1 ≠ 0 → SliceT g.ρ t w e sz v xs → SliceT g.ρ t w' e sz v xs :=
    fun htt hh => hh.keep (fun k hk hr => hb k hk (by rw [hr]; exact htt)) (fun _ _ => rfl)
  exact { blk := by rw [hb g.c (heap_lt h.blk) (by rw [h.tc]; decide)]; exact h.blk
          tc := h.tc, tl := h.tl, tf := h.tf, tot := h.tot
          fresh := fun k hk => h.fresh k (by have := ht.size; omega)
          typed := hs (by decide) h.typed, screen := hs (by decide) h.screen
          lines := h.lines.keep (hb _ h.lines.lt (by rw [h.tl]; decide)), linesv := fun k => hs (by show (7 : Nat) ≠ 0; decide) (h.linesv k)
          flags := h.flags.keep (hb _ h.flags.lt (by rw [h.tf]; decide)), flagsv := h.flagsv
          out := h.out.keep (hb _ h.out.lt (by rw [h.tot]; decide)), outv := fun k => hs (by show (8 : Nat) ≠ 0; decide) (h.outv k) }

theorem Rep.drew (h : Rep g S w) : Rep g S w.drew := h.keep (T := fun _ => False) ((Turn.refl _ _).drew) (fun _ _ h => h.elim)
theorem Rep.alloc (h : Rep g S w) (o : Obj) : Rep g S (w.alloc o) := h.keep (T := fun _ => False) ((Turn.refl _ _).alloc o) (fun _ _ h => h.elim)

/-- The console's block is written anew, and nothing else of its own, but for one slice of the tag t0 that may lie in a new row. -/
theorem Rep.block {g' : Ghost} {S' : CS} (h : Rep g S w) (t0 : Tag) (ht : Turn (fun k => k = g.c ∨ g.ρ k = t0) w w') (h0 : t0 = (0, 0) ∨ t0 = (2, 0) ∨ t0 = (3, 0))
    (hr : ∀ k, k < w.heap.size → g'.ρ k = g.ρ k) (hf : ∀ k, w'.heap.size ≤ k → (g'.ρ k).1 = 0)
    (hc : g'.c = g.c ∧ g'.ml = g.ml ∧ g'.mf = g.mf ∧ g'.mo = g.mo ∧ g'.fl = g.fl ∧ g'.ff = g.ff ∧ g'.fo = g.fo)
    (hS : S'.lines = S.lines ∧ S'.flags = S.flags ∧ S'.out = S.out)
    (hb : w'.heap[g.c]? = some (.cells (conCells g' S') 58 (0, 0)))
    (h2 : SliceT g'.ρ (2, 0) w' 5 1 g'.tv (bcells S'.typed)) (h3 : SliceT g'.ρ (3, 0) w' 5 1 g'.sv (bcells S'.screen)) : Rep g' S' w' := by
  obtain ⟨c1, c2, c3, c4, c5, c6, c7⟩ := hc
  obtain ⟨s1, s2, s3⟩ := hS
  have ne : ∀ k, k < w.heap.size → g.ρ k ≠ (1, 0) → g.ρ k ≠ t0 → w'.heap[k]? = w.heap[k]? := fun k hk a b =>
    ht.block k hk (fun hh => by rcases hh with rfl | hh; exact a h.tc; exact b hh)
  have hs : ∀ {t : Tag} {e : TypeId} {sz : Nat} {v : Value} {xs : List Value}, t ≠ (1, 0) → t ≠ t0 → SliceT g.ρ t w e sz v xs → SliceT g'.ρ t w' e sz v xs :=
    fun a b hh => hh.keep (fun k hk hr => ne k hk (by rw [hr]; exact a) (by rw [hr]; exact b)) hr
  have tt : ∀ {x : Nat} {k : Int}, 4 ≤ x → ((x, k) : Tag) ≠ (1, 0) ∧ ((x, k) : Tag) ≠ t0 := fun {x k} hx => by
    constructor
    · intro e; cases e; omega
    · rcases h0 with rfl | rfl | rfl <;> (intro e; cases e; omega)
  have l1 := h.lines.lt
  have l2 := h.flags.lt
  have l3 := h.out.lt
  refine { blk := by rw [c1]; exact hb
           tc := by rw [c1, hr _ (heap_lt h.blk)]; exact h.tc
           tl := by rw [c2, hr _ l1]; exact h.tl
           tf := by rw [c3, hr _ l2]; exact h.tf
           tot := by rw [c4, hr _ l3]; exact h.tot
           fresh := hf, typed := h2, screen := h3
           lines := by rw [c2, c5]; exact h.lines.keep (ne _ l1 (by rw [h.tl]; decide) (by rw [h.tl]; exact (tt (by omega)).2))
           linesv := fun k => by rw [c5, s1]; exact hs (tt (by omega)).1 (tt (by omega)).2 (h.linesv k)
           flags := by rw [c3, c6]; exact h.flags.keep (ne _ l2 (by rw [h.tf]; decide) (by rw [h.tf]; exact (tt (by omega)).2))
           flagsv := fun k => by rw [c6, s2]; exact h.flagsv k
           out := by rw [c4, c7]; exact h.out.keep (ne _ l3 (by rw [h.tot]; decide) (by rw [h.tot]; exact (tt (by omega)).2))
           outv := fun k => by rw [c7, s3]; exact hs (tt (by omega)).1 (tt (by omega)).2 (h.outv k) }

/-- The step that writing a cell of the console's block is. -/
theorem Rep.step_set (h : Rep g S w) (i : Nat) (v : Value) (g' : Ghost) (hg : g'.ρ = g.ρ) (hc : g'.c = g.c) : Step g g' w (w.setCell ⟨g.c, i, none⟩ v) :=
  ⟨(Turn.refl _ w).setCell (fun _ => by show (g.ρ g.c).1 ≠ 0; rw [h.tc]; decide) v, fun k _ => by rw [hg], hc⟩

theorem Rep.scalar {S' : CS} (h : Rep g S w) (i : Nat) (v : Value) (hv : (conCells g S).setIfInBounds i v = conCells g S')
    (hS : S'.lines = S.lines ∧ S'.flags = S.flags ∧ S'.out = S.out) (hS2 : S'.typed = S.typed ∧ S'.screen = S.screen) : Rep g S' (w.setCell ⟨g.c, i, none⟩ v) := by
  have ht : Turn (fun k => k = g.c ∨ g.ρ k = (0, 0)) w (w.setCell ⟨g.c, i, none⟩ v) := (Turn.refl _ w).setCell (fun _ => .inl rfl) v
  have hs : ∀ {t : Tag} {e : TypeId} {sz : Nat} {u : Value} {xs : List Value}, t ≠ (1, 0) → SliceT g.ρ t w e sz u xs → SliceT g.ρ t (w.setCell ⟨g.c, i, none⟩ v) e sz u xs :=
    fun a hh => hh.keep (fun k hk hr => heap_setCell_ne v (fun e => a (by rw [← hr]; have : k = g.c := e; rw [this]; exact h.tc))) (fun _ _ => rfl)
  refine h.block (g' := g) (S' := S') (0, 0) ht (.inl rfl) (fun _ _ => rfl) (by simpa using h.fresh) ⟨rfl, rfl, rfl, rfl, rfl, rfl, rfl⟩ hS ?_ ?_ ?_
  · rw [heap_setCell_self v h.blk, hv]
  · rw [hS2.1]; exact hs (by decide) h.typed
  · rw [hS2.2]; exact hs (by decide) h.screen

theorem Rep.set_chosen (h : Rep g S w) (x : Int) : Rep g { S with chosen := x } (w.setCell ⟨g.c, 1, none⟩ (.int .i64 x)) := h.scalar 1 _ rfl ⟨rfl, rfl, rfl⟩ ⟨rfl, rfl⟩
theorem Rep.set_typing (h : Rep g S w) (x : Bool) : Rep g { S with typing := x } (w.setCell ⟨g.c, 2, none⟩ (.bool x)) := h.scalar 2 _ rfl ⟨rfl, rfl, rfl⟩ ⟨rfl, rfl⟩
theorem Rep.set_digits (h : Rep g S w) (x : Int) : Rep g { S with digits := x } (w.setCell ⟨g.c, 3, none⟩ (.int .i64 x)) := h.scalar 3 _ rfl ⟨rfl, rfl, rfl⟩ ⟨rfl, rfl⟩
theorem Rep.set_number (h : Rep g S w) (x : Int) : Rep g { S with number := x } (w.setCell ⟨g.c, 4, none⟩ (.int .i64 x)) := h.scalar 4 _ rfl ⟨rfl, rfl, rfl⟩ ⟨rfl, rfl⟩
theorem Rep.set_last (h : Rep g S w) (x : Int) : Rep g { S with last := x } (w.setCell ⟨g.c, 8, none⟩ (.int .i64 x)) := h.scalar 8 _ rfl ⟨rfl, rfl, rfl⟩ ⟨rfl, rfl⟩

/-- The typed line is another slice of the same row, or nil. -/
theorem Rep.set_typed (h : Rep g S w) (v : Value) (t : Bytes) (hv : SliceT g.ρ (2, 0) w 5 1 v (bcells t)) : Rep { g with tv := v } { S with typed := t } (w.setCell ⟨g.c, 0, none⟩ v) := by
  have ht : Turn (fun k => k = g.c ∨ g.ρ k = (0, 0)) w (w.setCell ⟨g.c, 0, none⟩ v) := (Turn.refl _ w).setCell (fun _ => .inl rfl) v
  have hs : ∀ {t : Tag} {e : TypeId} {sz : Nat} {u : Value} {xs : List Value}, t ≠ (1, 0) → SliceT g.ρ t w e sz u xs → SliceT g.ρ t (w.setCell ⟨g.c, 0, none⟩ v) e sz u xs :=
    fun a hh => hh.keep (fun k hk hr => heap_setCell_ne v (fun e => a (by rw [← hr]; have : k = g.c := e; rw [this]; exact h.tc))) (fun _ _ => rfl)
  refine h.block (g' := { g with tv := v }) (S' := { S with typed := t }) (0, 0) ht (.inl rfl) (fun _ _ => rfl) (by simpa using h.fresh) ⟨rfl, rfl, rfl, rfl, rfl, rfl, rfl⟩ ⟨rfl, rfl, rfl⟩ ?_ (hs (by decide) hv) (hs (by decide) h.screen)
  rw [heap_setCell_self v h.blk]; rfl

/-- What an append leaves of the tags: new blocks are the slice's own. -/
theorem SliceT.grown {ρ : Tags} {t : Tag} {w w1 : World} {e : TypeId} {sz : Nat} {v v' : Value} {xs ys : List Value} (h : SliceT ρ t w e sz v xs) (h1 : SliceAt w1 e sz v' ys)
    (hw : v'.ownBlock = v.ownBlock ∨ v'.ownBlock = some w.heap.size) : SliceT (retag ρ w.heap.size w1.heap.size t) t w1 e sz v' ys := by
  refine ⟨h1, fun b hb => ?_⟩
  rcases hw with hw | hw
  · rw [hw] at hb
    rw [retag_old ρ t (h.1.lt b hb)]; exact h.2 b hb
  · have hl := h1.lt b hb
    rw [hw] at hb
    cases hb
    exact retag_new ρ t (Nat.le_refl _) hl

theorem Rep.append_typed {w1 : World} {v' : Value} {t : Bytes} (h : Rep g S w) (ht : Turn (fun k => g.tv.ownBlock = some k) w w1) (h1 : SliceAt w1 5 1 v' (bcells t)) (hw : v'.ownBlock = g.tv.ownBlock ∨ v'.ownBlock = some w.heap.size) :
    Rep { g with tv := v', ρ := retag g.ρ w.heap.size w1.heap.size (2, 0) } { S with typed := t } (w1.setCell ⟨g.c, 0, none⟩ v') ∧ Step g { g with tv := v', ρ := retag g.ρ w.heap.size w1.heap.size (2, 0) } w (w1.setCell ⟨g.c, 0, none⟩ v') := by
  have hc := heap_lt h.blk
  have hcne : ¬ g.tv.ownBlock = some g.c := fun e => by have := h.typed.2 _ e; rw [h.tc] at this; cases this
  have hb1 : w1.heap[g.c]? = some (.cells (conCells g S) 58 (0, 0)) := by rw [ht.block g.c hc hcne]; exact h.blk
  have t1 : Turn (fun k => k = g.c ∨ g.ρ k = (2, 0)) w (w1.setCell ⟨g.c, 0, none⟩ v') := (ht.mono (fun k _ hk => .inr (h.typed.2 k hk))).setCell (fun _ => .inl rfl) v'
  have hz : (w1.setCell ⟨g.c, 0, none⟩ v').heap.size = w1.heap.size := by simp
  have g2 := h.typed.grown h1 hw
  have hn : ∀ {t : Tag} {ρ : Tags} {e : TypeId} {sz : Nat} {u : Value} {xs : List Value}, ρ g.c ≠ t → SliceT ρ t w1 e sz u xs → SliceT ρ t (w1.setCell ⟨g.c, 0, none⟩ v') e sz u xs :=
    fun a hh => hh.keep (fun k hk hr => heap_setCell_ne v' (fun e => a (by rw [← hr]; have : k = g.c := e; rw [this]))) (fun _ _ => rfl)
  have old : ∀ k, k < w.heap.size → retag g.ρ w.heap.size w1.heap.size (2, 0) k = g.ρ k := fun k hk => retag_old g.ρ _ hk
  have s3 : SliceT (retag g.ρ w.heap.size w1.heap.size (2, 0)) (3, 0) w1 5 1 g.sv (bcells S.screen) :=
    h.screen.keep (fun k hk hr => ht.block k hk fun e => by have := h.typed.2 k e; rw [hr] at this; cases this) old
  refine ⟨h.block (g' := { g with tv := v', ρ := retag g.ρ w.heap.size w1.heap.size (2, 0) }) (S' := { S with typed := t }) (2, 0) t1 (.inr (.inl rfl)) old ?_ ⟨rfl, rfl, rfl, rfl, rfl, rfl, rfl⟩ ⟨rfl, rfl, rfl⟩ ?_ (hn (fun e => by have e2 := (old _ hc).symm.trans e; rw [h.tc] at e2; cases e2) g2) (hn (fun e => by have e2 := (old _ hc).symm.trans e; rw [h.tc] at e2; cases e2) s3), ?_, old, rfl⟩
  · intro k hk
    rw [hz] at hk
    show (retag g.ρ w.heap.size w1.heap.size (2, 0) k).1 = 0
    unfold retag
    rw [if_neg (by omega)]
    exact h.fresh k (by have := ht.size; omega)
  · rw [heap_setCell_self v' hb1]; rfl
  · exact t1.mono fun k _ hk => by
      rcases hk with rfl | hk
      · rw [h.tc]; decide
      · rw [hk]; decide

theorem Rep.append_screen {w1 : World} {v' : Value} {t : Bytes} (h : Rep g S w) (ht : Turn (fun k => g.sv.ownBlock = some k) w w1) (h1 : SliceAt w1 5 1 v' (bcells t)) (hw : v'.ownBlock = g.sv.ownBlock ∨ v'.ownBlock = some w.heap.size) :
    Rep { g with sv := v', ρ := retag g.ρ w.heap.size w1.heap.size (3, 0) } { S with screen := t } (w1.setCell ⟨g.c, 9, none⟩ v') ∧ Step g { g with sv := v', ρ := retag g.ρ w.heap.size w1.heap.size (3, 0) } w (w1.setCell ⟨g.c, 9, none⟩ v') := by
  have hc := heap_lt h.blk
  have hcne : ¬ g.sv.ownBlock = some g.c := fun e => by have := h.screen.2 _ e; rw [h.tc] at this; cases this
  have hb1 : w1.heap[g.c]? = some (.cells (conCells g S) 58 (0, 0)) := by rw [ht.block g.c hc hcne]; exact h.blk
  have t1 : Turn (fun k => k = g.c ∨ g.ρ k = (3, 0)) w (w1.setCell ⟨g.c, 9, none⟩ v') := (ht.mono (fun k _ hk => .inr (h.screen.2 k hk))).setCell (fun _ => .inl rfl) v'
  have hz : (w1.setCell ⟨g.c, 9, none⟩ v').heap.size = w1.heap.size := by simp
  have g2 := h.screen.grown h1 hw
  have hn : ∀ {t : Tag} {ρ : Tags} {e : TypeId} {sz : Nat} {u : Value} {xs : List Value}, ρ g.c ≠ t → SliceT ρ t w1 e sz u xs → SliceT ρ t (w1.setCell ⟨g.c, 9, none⟩ v') e sz u xs :=
    fun a hh => hh.keep (fun k hk hr => heap_setCell_ne v' (fun e => a (by rw [← hr]; have : k = g.c := e; rw [this]))) (fun _ _ => rfl)
  have old : ∀ k, k < w.heap.size → retag g.ρ w.heap.size w1.heap.size (3, 0) k = g.ρ k := fun k hk => retag_old g.ρ _ hk
  have s3 : SliceT (retag g.ρ w.heap.size w1.heap.size (3, 0)) (2, 0) w1 5 1 g.tv (bcells S.typed) :=
    h.typed.keep (fun k hk hr => ht.block k hk fun e => by have := h.screen.2 k e; rw [hr] at this; cases this) old
  refine ⟨h.block (g' := { g with sv := v', ρ := retag g.ρ w.heap.size w1.heap.size (3, 0) }) (S' := { S with screen := t }) (3, 0) t1 (.inr (.inr rfl)) old ?_ ⟨rfl, rfl, rfl, rfl, rfl, rfl, rfl⟩ ⟨rfl, rfl, rfl⟩ ?_ (hn (fun e => by have e2 := (old _ hc).symm.trans e; rw [h.tc] at e2; cases e2) s3) (hn (fun e => by have e2 := (old _ hc).symm.trans e; rw [h.tc] at e2; cases e2) g2), ?_, old, rfl⟩
  · intro k hk
    rw [hz] at hk
    show (retag g.ρ w.heap.size w1.heap.size (3, 0) k).1 = 0
    unfold retag
    rw [if_neg (by omega)]
    exact h.fresh k (by have := ht.size; omega)
  · rw [heap_setCell_self v' hb1]; rfl
  · exact t1.mono fun k _ hk => by
      rcases hk with rfl | hk
      · rw [h.tc]; decide
      · rw [hk]; decide

/-- A slice of a map of slices has been appended to, or cut: then it is stored under its key. 'w1': behind the append; 'w2': behind the store into the map. -/
theorem Rep.put_line {w1 w2 : World} {v' : Value} {k : Int} {t : List Bytes} (h : Rep g S w) (ht : Turn (fun j => ((g.fl k).getD nilSlice).ownBlock = some j) w w1) (h1 : SliceAt w1 9 1 v' (scells t))
    (hw : v'.ownBlock = ((g.fl k).getD nilSlice).ownBlock ∨ (w.heap.size < w1.heap.size ∧ ∃ b, v'.ownBlock = some b ∧ w.heap.size ≤ b)) (hm : MapAt w2 g.ml (upd g.fl k (some v'))) (ht2 : Turn (fun j => j = g.ml) w1 w2) (hz : w2.heap.size = w1.heap.size) :
    Rep { g with fl := upd g.fl k (some v'), ρ := retag g.ρ w.heap.size w1.heap.size (7, k) } { S with lines := upd S.lines k t } w2 ∧ Step g { g with fl := upd g.fl k (some v'), ρ := retag g.ρ w.heap.size w1.heap.size (7, k) } w w2 := by
  have old : ∀ j, j < w.heap.size → retag g.ρ w.heap.size w1.heap.size (7, k) j = g.ρ j := fun j hj => retag_old g.ρ _ hj
  have t1 : Turn (fun j => j = g.ml ∨ g.ρ j = (7, k)) w w2 := by
    have a : Turn (fun j => j = g.ml ∨ g.ρ j = (7, k)) w w1 := ht.mono fun j _ hj => .inr ((h.linesv k).2 j hj)
    have hml := h.lines.lt
    refine ⟨ht2.os.trans a.os, ht2.tape.trans a.tape, ht2.output.trans a.output, by have := a.size; omega, fun j hj hne => ?_⟩
    rw [ht2.block j (by have := a.size; omega) (fun e => hne (.inl e))]
    exact a.block j hj hne
  have ne : ∀ j, j < w.heap.size → g.ρ j ≠ (4, 0) → g.ρ j ≠ (7, k) → w2.heap[j]? = w.heap[j]? := fun j hj a b =>
    t1.block j hj (fun hh => by rcases hh with rfl | hh; exact a h.tl; exact b hh)
  have hs : ∀ {t : Tag} {e : TypeId} {sz : Nat} {u : Value} {xs : List Value}, t ≠ (4, 0) → t ≠ (7, k) → SliceT g.ρ t w e sz u xs → SliceT (retag g.ρ w.heap.size w1.heap.size (7, k)) t w2 e sz u xs :=
    fun a b hh => hh.keep (fun j hj hr => ne j hj (by rw [hr]; exact a) (by rw [hr]; exact b)) old
  have hc := heap_lt h.blk
  refine ⟨{ blk := by show w2.heap[g.c]? = _; rw [ne g.c hc (by rw [h.tc]; decide) (by rw [h.tc]; intro e; cases e)]; exact h.blk
            tc := by show retag _ _ _ _ g.c = _; rw [old _ hc]; exact h.tc
            tl := by show retag _ _ _ _ g.ml = _; rw [old _ h.lines.lt]; exact h.tl
            tf := by show retag _ _ _ _ g.mf = _; rw [old _ h.flags.lt]; exact h.tf
            tot := by show retag _ _ _ _ g.mo = _; rw [old _ h.out.lt]; exact h.tot
            fresh := fun j hj => by
              show (retag g.ρ w.heap.size w1.heap.size (7, k) j).1 = 0
              unfold retag
              rw [if_neg (by omega)]
              exact h.fresh j (by have := ht.size; omega)
            typed := hs (by decide) (by intro e; cases e) h.typed, screen := hs (by decide) (by intro e; cases e) h.screen
            lines := hm
            linesv := fun j => ?_
            flags := h.flags.keep (ne _ h.flags.lt (by rw [h.tf]; decide) (by rw [h.tf]; intro e; cases e)), flagsv := h.flagsv
            out := h.out.keep (ne _ h.out.lt (by rw [h.tot]; decide) (by rw [h.tot]; intro e; cases e))
            outv := fun j => hs (by intro e; cases e) (by intro e; cases e) (h.outv j) }, ?_, old, rfl⟩
  · show SliceT _ _ w2 _ _ ((upd g.fl k (some v') j).getD nilSlice) (scells (upd S.lines k t j))
    by_cases hj : j = k
    · subst hj
      rw [upd_self, upd_self]
      refine ⟨h1.keep fun b hb => ht2.block b (h1.lt b hb) fun e => ?_, fun b hb => ?_⟩
      · subst e
        rcases hw with hw | ⟨_, b', hw, hb'⟩
        · have hb2 : ((g.fl j).getD nilSlice).ownBlock = some g.ml := hw ▸ hb
          have := (h.linesv j).2 _ hb2
          rw [h.tl] at this
          cases this
        · have hb2 : v'.ownBlock = some g.ml := hb
          rw [hw] at hb2
          have e1 : b' = g.ml := Option.some.inj hb2
          have := h.lines.lt
          omega
      · show retag g.ρ w.heap.size w1.heap.size (7, j) b = (7, j)
        have hl := h1.lt b hb
        have hb2 : v'.ownBlock = some b := hb
        rcases hw with hw | ⟨_, b', hw, hb'⟩
        · have hb3 : ((g.fl j).getD nilSlice).ownBlock = some b := hw ▸ hb2
          rw [old b ((h.linesv j).1.lt b hb3)]
          exact (h.linesv j).2 b hb3
        · rw [hw] at hb2
          have e1 : b' = b := Option.some.inj hb2
          exact retag_new g.ρ _ (by omega) hl
    · rw [upd_ne _ _ hj, upd_ne _ _ hj]
      exact hs (by intro e; cases e) (by intro e; cases e; exact hj rfl) (h.linesv j)
  · exact t1.mono fun j _ hj => by
      rcases hj with rfl | hj
      · rw [h.tl]; decide
      · rw [hj]; show (7 : Nat) ≠ 0; decide

theorem Rep.put_flag {w2 : World} {k x : Int} (h : Rep g S w) (hm : MapAt w2 g.mf (upd g.ff k (some (.int .i64 x)))) (ht2 : Turn (fun j => j = g.mf) w w2) (hz : w2.heap.size = w.heap.size) :
    Rep { g with ff := upd g.ff k (some (.int .i64 x)) } { S with flags := upd S.flags k x } w2 ∧ Step g { g with ff := upd g.ff k (some (.int .i64 x)) } w w2 := by
  have ne : ∀ j, j < w.heap.size → g.ρ j ≠ (5, 0) → w2.heap[j]? = w.heap[j]? := fun j hj a => ht2.block j hj (fun hh => by rw [hh] at a; exact a h.tf)
  have hs : ∀ {t : Tag} {e : TypeId} {sz : Nat} {u : Value} {xs : List Value}, t ≠ (5, 0) → SliceT g.ρ t w e sz u xs → SliceT g.ρ t w2 e sz u xs :=
    fun a hh => hh.keep (fun j hj hr => ne j hj (by rw [hr]; exact a)) (fun _ _ => rfl)
  refine ⟨{ blk := by show w2.heap[g.c]? = _; rw [ne g.c (heap_lt h.blk) (by rw [h.tc]; decide)]; exact h.blk
            tc := h.tc, tl := h.tl, tf := h.tf, tot := h.tot
            fresh := fun j hj => h.fresh j (by omega)
            typed := hs (by decide) h.typed, screen := hs (by decide) h.screen
            lines := h.lines.keep (ne _ h.lines.lt (by rw [h.tl]; decide)), linesv := fun j => hs (by intro e; cases e) (h.linesv j)
            flags := hm
            flagsv := fun j => by
              show (upd g.ff k (some (.int .i64 x)) j).getD _ = .int .i64 (upd S.flags k x j)
              unfold upd
              by_cases hj : j = k
              · rw [if_pos hj, if_pos hj]; rfl
              · rw [if_neg hj, if_neg hj]; exact h.flagsv j
            out := h.out.keep (ne _ h.out.lt (by rw [h.tot]; decide))
            outv := fun j => hs (by intro e; cases e) (h.outv j) }, ht2.mono fun j _ hj => by rw [hj, h.tf]; decide, fun _ _ => rfl, rfl⟩
end
end Go.Con
