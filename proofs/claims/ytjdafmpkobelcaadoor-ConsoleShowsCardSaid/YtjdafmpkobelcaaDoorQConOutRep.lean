/-
  The console in memory, what a task's write turns: the screen after several appends; the map of the lines that tasks are writing; flags that are cleared.
-/
import Derived.Test.YtjdafmpkobelcaaDoorQConOutModel
import Derived.Test.YtjdafmpkobelcaaDoorQConEq
set_option linter.unusedVariables false

namespace Go.Con
open Go.Own Go.RowKit

theorem SliceT.grown2 {ρ : Tags} {t : Tag} {w w1 : World} {e : TypeId} {sz : Nat} {v v' : Value} {xs ys : List Value} (h : SliceT ρ t w e sz v xs) (h1 : SliceAt w1 e sz v' ys)
    (hw : v'.ownBlock = v.ownBlock ∨ ∃ b, v'.ownBlock = some b ∧ w.heap.size ≤ b) : SliceT (retag ρ w.heap.size w1.heap.size t) t w1 e sz v' ys := by
  refine ⟨h1, fun b hb => ?_⟩
  rcases hw with hw | ⟨b', hw, hb'⟩
  · rw [hw] at hb
    rw [retag_old ρ t (h.1.lt b hb)]; exact h.2 b hb
  · have hl := h1.lt b hb
    rw [hw] at hb
    cases hb
    exact retag_new ρ t hb' hl

section
variable {g : Ghost} {S : CS} {w w' : World}

theorem Rep.append_screen2 {w1 : World} {v' : Value} {t : Bytes} (h : Rep g S w) (ht : Turn (fun k => g.sv.ownBlock = some k) w w1) (h1 : SliceAt w1 5 1 v' (bcells t)) (hw : v'.ownBlock = g.sv.ownBlock ∨ ∃ b, v'.ownBlock = some b ∧ w.heap.size ≤ b) :
    Rep { g with sv := v', ρ := retag g.ρ w.heap.size w1.heap.size (3, 0) } { S with screen := t } (w1.setCell ⟨g.c, 9, none⟩ v') ∧ Step g { g with sv := v', ρ := retag g.ρ w.heap.size w1.heap.size (3, 0) } w (w1.setCell ⟨g.c, 9, none⟩ v') := by
  have hc := heap_lt h.blk
  have hcne : ¬ g.sv.ownBlock = some g.c := fun e => by have := h.screen.2 _ e; rw [h.tc] at this; cases this
  have hb1 : w1.heap[g.c]? = some (.cells (conCells g S) 58 (0, 0)) := by rw [ht.block g.c hc hcne]; exact h.blk
  have t1 : Turn (fun k => k = g.c ∨ g.ρ k = (3, 0)) w (w1.setCell ⟨g.c, 9, none⟩ v') := (ht.mono (fun k _ hk => .inr (h.screen.2 k hk))).setCell (fun _ => .inl rfl) v'
  have hz : (w1.setCell ⟨g.c, 9, none⟩ v').heap.size = w1.heap.size := by simp
  have g2 := h.screen.grown2 h1 hw
  have hn : ∀ {t : Tag} {ρ : Tags} {e : TypeId} {sz : Nat} {u : Value} {xs : List Value}, ρ g.c ≠ t → SliceT ρ t w1 e sz u xs → SliceT ρ t (w1.setCell ⟨g.c, 9, none⟩ v') e sz u xs :=
    fun a hh => hh.keep (fun k hk hr => heap_setCell_ne v' (fun e => a (by rw [← hr]; have : k = g.c := e; rw [this]))) (fun _ _ => rfl)
  have old : ∀ k, k < w.heap.size → retag g.ρ w.heap.size w1.heap.size (3, 0) k = g.ρ k := fun k hk => retag_old g.ρ _ hk
  have s3 : SliceT (retag g.ρ w.heap.size w1.heap.size (3, 0)) (2, 0) w1 5 1 g.tv (bcells S.typed) :=
    h.typed.keep (fun k hk hr => ht.block k hk fun e => by have := h.screen.2 k e; rw [hr] at this; cases this) old
  refine ⟨h.block (g' := { g with sv := v', ρ := retag g.ρ w.heap.size w1.heap.size (3, 0) }) (S' := { S with screen := t }) (3, 0) t1 (.inr (.inr rfl)) old ?_ ⟨rfl, rfl, rfl, rfl, rfl, rfl, rfl⟩ ⟨rfl, rfl, rfl⟩ ?_ (hn (fun e => by have e2 := (old _ hc).symm.trans e; rw [h.tc] at e2; cases e2) s3) (hn (fun e => by have e2 := (old _ hc).symm.trans e; rw [h.tc] at e2; cases e2) g2), ?_, old, rfl⟩
  · intro k hk
    rw [hz] at hk
    show (retag g.ρ w.heap.size w1.heap.size (3, 0) k).1 = 0
    unfold retag
    rw [if_neg (by omega)]
    exact h.fresh k (by have := ht.size; omega)
  · rw [heap_setCell_self v' hb1]; rfl
  · exact t1.mono fun k _ hk => by
      rcases hk with rfl | hk
      · rw [h.tc]; decide
      · rw [hk]; decide

/-- A line that a task is writing has been appended to, or is nil now: then it is stored under its key. -/
theorem Rep.put_out {w1 w2 : World} {v' : Value} {k : Int} {t : Bytes} (h : Rep g S w) (ht : Turn (fun j => ((g.fo k).getD nilSlice).ownBlock = some j) w w1) (h1 : SliceAt w1 5 1 v' (bcells t))
    (hw : (v'.ownBlock = ((g.fo k).getD nilSlice).ownBlock ∨ v'.ownBlock = none) ∨ ∃ b, v'.ownBlock = some b ∧ w.heap.size ≤ b) (hm : MapAt w2 g.mo (upd g.fo k (some v'))) (ht2 : Turn (fun j => j = g.mo) w1 w2) (hz : w2.heap.size = w1.heap.size) :
    Rep { g with fo := upd g.fo k (some v'), ρ := retag g.ρ w.heap.size w1.heap.size (8, k) } { S with out := upd S.out k t } w2 ∧ Step g { g with fo := upd g.fo k (some v'), ρ := retag g.ρ w.heap.size w1.heap.size (8, k) } w w2 := by
  have old : ∀ j, j < w.heap.size → retag g.ρ w.heap.size w1.heap.size (8, k) j = g.ρ j := fun j hj => retag_old g.ρ _ hj
  have t1 : Turn (fun j => j = g.mo ∨ g.ρ j = (8, k)) w w2 := by
    have a : Turn (fun j => j = g.mo ∨ g.ρ j = (8, k)) w w1 := ht.mono fun j _ hj => .inr ((h.outv k).2 j hj)
    have hml := h.out.lt
    refine ⟨ht2.os.trans a.os, ht2.tape.trans a.tape, ht2.output.trans a.output, by have := a.size; omega, fun j hj hne => ?_⟩
    rw [ht2.block j (by have := a.size; omega) (fun e => hne (.inl e))]
    exact a.block j hj hne
  have ne : ∀ j, j < w.heap.size → g.ρ j ≠ (6, 0) → g.ρ j ≠ (8, k) → w2.heap[j]? = w.heap[j]? := fun j hj a b =>
    t1.block j hj (fun hh => by rcases hh with rfl | hh; exact a h.tot; exact b hh)
  have hs : ∀ {t : Tag} {e : TypeId} {sz : Nat} {u : Value} {xs : List Value}, t ≠ (6, 0) → t ≠ (8, k) → SliceT g.ρ t w e sz u xs → SliceT (retag g.ρ w.heap.size w1.heap.size (8, k)) t w2 e sz u xs :=
    fun a b hh => hh.keep (fun j hj hr => ne j hj (by rw [hr]; exact a) (by rw [hr]; exact b)) old
  have hc := heap_lt h.blk
  refine ⟨{ blk := by show w2.heap[g.c]? = _; rw [ne g.c hc (by rw [h.tc]; decide) (by rw [h.tc]; intro e; cases e)]; exact h.blk
            tc := by show retag _ _ _ _ g.c = _; rw [old _ hc]; exact h.tc
            tl := by show retag _ _ _ _ g.ml = _; rw [old _ h.lines.lt]; exact h.tl
            tf := by show retag _ _ _ _ g.mf = _; rw [old _ h.flags.lt]; exact h.tf
            tot := by show retag _ _ _ _ g.mo = _; rw [old _ h.out.lt]; exact h.tot
            fresh := fun j hj => by
              show (retag g.ρ w.heap.size w1.heap.size (8, k) j).1 = 0
              unfold retag
              rw [if_neg (by omega)]
              exact h.fresh j (by have := ht.size; omega)
            typed := hs (by decide) (by intro e; cases e) h.typed, screen := hs (by decide) (by intro e; cases e) h.screen
            lines := h.lines.keep (ne _ h.lines.lt (by rw [h.tl]; decide) (by rw [h.tl]; intro e; cases e))
            linesv := fun j => hs (by intro e; cases e) (by intro e; cases e) (h.linesv j)
            flags := h.flags.keep (ne _ h.flags.lt (by rw [h.tf]; decide) (by rw [h.tf]; intro e; cases e)), flagsv := h.flagsv
            out := hm
            outv := fun j => ?_ }, ?_, old, rfl⟩
  · show SliceT _ _ w2 _ _ ((upd g.fo k (some v') j).getD nilSlice) (bcells (upd S.out k t j))
    by_cases hj : j = k
    · subst hj
      rw [upd_self, upd_self]
      refine ⟨h1.keep fun b hb => ht2.block b (h1.lt b hb) fun e => ?_, fun b hb => ?_⟩
      · subst e
        rcases hw with (hw | hw) | ⟨b', hw, hb'⟩
        · have hb2 : ((g.fo j).getD nilSlice).ownBlock = some g.mo := hw ▸ hb
          have := (h.outv j).2 _ hb2
          rw [h.tot] at this
          cases this
        · have hb2 : v'.ownBlock = some g.mo := hb
          rw [hw] at hb2; cases hb2
        · have hb2 : v'.ownBlock = some g.mo := hb
          rw [hw] at hb2
          have e1 : b' = g.mo := Option.some.inj hb2
          have := h.out.lt
          omega
      · show retag g.ρ w.heap.size w1.heap.size (8, j) b = (8, j)
        have hl := h1.lt b hb
        have hb2 : v'.ownBlock = some b := hb
        rcases hw with (hw | hw) | ⟨b', hw, hb'⟩
        · have hb3 : ((g.fo j).getD nilSlice).ownBlock = some b := hw ▸ hb2
          rw [old b ((h.outv j).1.lt b hb3)]
          exact (h.outv j).2 b hb3
        · rw [hw] at hb2; cases hb2
        · rw [hw] at hb2
          have e1 : b' = b := Option.some.inj hb2
          exact retag_new g.ρ _ (by omega) hl
    · rw [upd_ne _ _ hj, upd_ne _ _ hj]
      exact hs (by intro e; cases e) (by intro e; cases e; exact hj rfl) (h.outv j)
  · exact t1.mono fun j _ hj => by
      rcases hj with rfl | hj
      · rw [h.tot]; decide
      · rw [hj]; show (8 : Nat) ≠ 0; decide

/-- A task's flags are cleared: its key is struck. -/
theorem Rep.clear_flag {w2 : World} {k : Int} (h : Rep g S w) (hm : MapAt w2 g.mf (upd g.ff k none)) (ht2 : Turn (fun j => j = g.mf) w w2) (hz : w2.heap.size = w.heap.size) :
    Rep { g with ff := upd g.ff k none } { S with flags := upd S.flags k 0 } w2 ∧ Step g { g with ff := upd g.ff k none } w w2 := by
  have ne : ∀ j, j < w.heap.size → g.ρ j ≠ (5, 0) → w2.heap[j]? = w.heap[j]? := fun j hj a => ht2.block j hj (fun hh => by rw [hh] at a; exact a h.tf)
  have hs : ∀ {t : Tag} {e : TypeId} {sz : Nat} {u : Value} {xs : List Value}, t ≠ (5, 0) → SliceT g.ρ t w e sz u xs → SliceT g.ρ t w2 e sz u xs :=
    fun a hh => hh.keep (fun j hj hr => ne j hj (by rw [hr]; exact a)) (fun _ _ => rfl)
  refine ⟨{ blk := by show w2.heap[g.c]? = _; rw [ne g.c (heap_lt h.blk) (by rw [h.tc]; decide)]; exact h.blk
            tc := h.tc, tl := h.tl, tf := h.tf, tot := h.tot
            fresh := fun j hj => h.fresh j (by omega)
            typed := hs (by decide) h.typed, screen := hs (by decide) h.screen
            lines := h.lines.keep (ne _ h.lines.lt (by rw [h.tl]; decide)), linesv := fun j => hs (by intro e; cases e) (h.linesv j)
            flags := hm
            flagsv := fun j => by
              show (upd g.ff k none j).getD _ = .int .i64 (upd S.flags k 0 j)
              unfold upd
              by_cases hj : j = k
              · rw [if_pos hj, if_pos hj]; rfl
              · rw [if_neg hj, if_neg hj]; exact h.flagsv j
            out := h.out.keep (ne _ h.out.lt (by rw [h.tot]; decide))
            outv := fun j => hs (by intro e; cases e) (h.outv j) }, ht2.mono fun j _ hj => by rw [hj, h.tf]; decide, fun _ _ => rfl, rfl⟩
end
end Go.Con
