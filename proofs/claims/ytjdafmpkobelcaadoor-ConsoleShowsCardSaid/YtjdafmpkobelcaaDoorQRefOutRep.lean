/-
  The reference's console in memory, what a task's write turns; what a task's read takes out.
-/
import Derived.Test.YtjdafmpkobelcaaDoorQConOutModel
import Derived.Test.YtjdafmpkobelcaaDoorQRefType
set_option linter.unusedVariables false

namespace Go.Con
open Go.Own Go.RowKit Go.Proofs

section
variable {r : RG} {S : CS} {w w' : World}

def RG.setOv (r : RG) (k : Nat) (v : Value) : RG := { r with ov := fun j => if j = k then v else r.ov j }

theorem rcell_own (k : Nat) (hk : k < 100) : rcell r S (104 + k) = r.ov k := by
  unfold rcell
  rw [if_neg (by omega), if_neg (by omega), if_neg (by omega), if_neg (by omega), if_neg (by omega), if_pos (by omega), show 104 + k - 104 = k from by omega]

theorem rcell_setOv (k : Nat) (v : Value) (g : Ghost) (hg : g.tv = r.g.tv ∧ g.sv = r.g.sv) (t : Bytes) (j : Nat) (hj : j ≠ 104 + k) :
    rcell r S j = rcell { r.setOv k v with g := g } { S with out := upd S.out k t } j := by
  unfold rcell RG.setOv
  simp only [hg.1, hg.2]
  by_cases h4 : 104 ≤ j ∧ j < 204
  · rw [if_neg (by omega), if_neg (by omega), if_neg (by omega), if_neg (by omega), if_neg (by omega), if_pos (by omega), if_neg (by omega), if_neg (by omega), if_neg (by omega), if_neg (by omega), if_neg (by omega), if_pos (by omega), if_neg (by omega)]
  · by_cases h5 : j < 104
    · simp only [if_pos h5]
    · have h6 : ¬ j < 204 := by omega
      simp only [if_neg h5, if_neg h6]

theorem RRep.append_own {w1 : World} {v' : Value} {t : Bytes} (h : RRep r S w) (k : Nat) (hk : k < 100) (ht : Turn (fun j => (r.ov k).ownBlock = some j) w w1) (h1 : SliceAt w1 5 1 v' (bcells t)) (hw : v'.ownBlock = (r.ov k).ownBlock ∨ v'.ownBlock = some w.heap.size) :
    ∃ r', RRep r' { S with out := upd S.out k t } (w1.setCell ⟨r.g.c, 104 + k, none⟩ v') ∧ Step r.g r'.g w (w1.setCell ⟨r.g.c, 104 + k, none⟩ v') ∧ r'.bg = r.bg ∧ r'.wt = r.wt := by
  obtain ⟨a, b, c, d, e, f⟩ := h.grow (h.own k) (by intro e; cases e) (by show (8 : Nat) ≠ 0; decide) ht h1 hw (104 + k) (r' := { r.setOv k v' with g := { r.g with ρ := retag r.g.ρ w.heap.size w1.heap.size (8, k) } }) (S' := { S with out := upd S.out k t }) rfl rfl
    (by rw [rcell_own k hk]; show (if k = k then v' else _) = v'; rw [if_pos rfl]) (fun j hj => rcell_setOv k v' _ ⟨rfl, rfl⟩ t j hj)
  refine ⟨_, h.block (8, k) a b c rfl d (.inl ⟨(by intro e; cases e), rfl, rfl⟩) (.inl ⟨(by intro e; cases e), rfl, rfl⟩) (.inl ⟨(by intro e; cases e), rfl, rfl⟩) (fun j => ?_) h.lines h.two h.nb, f, rfl, rfl⟩
  by_cases hj : j = k
  · subst hj
    right
    show SliceT _ _ _ _ _ (if j = j then v' else r.ov j) (bcells (upd S.out (j : Int) t (j : Int)))
    rw [if_pos rfl, upd_self]
    exact e
  · left
    refine ⟨(by intro e; cases e; exact hj rfl), ?_, ?_⟩
    · show (if j = k then v' else r.ov j) = r.ov j
      rw [if_neg hj]
    · show upd S.out (k : Int) t (j : Int) = S.out j
      rw [upd_ne _ _ (by omega)]

theorem RRep.nil_own (h : RRep r S w) (k : Nat) (hk : k < 100) :
    RRep (r.setOv k nilSlice) { S with out := upd S.out k [] } (w.setCell ⟨r.g.c, 104 + k, none⟩ nilSlice) ∧ Step r.g (r.setOv k nilSlice).g w (w.setCell ⟨r.g.c, 104 + k, none⟩ nilSlice) := by
  have ht : Turn (fun j => j = r.g.c ∨ r.g.ρ j = (0, 0)) w (w.setCell ⟨r.g.c, 104 + k, none⟩ nilSlice) := (Turn.refl _ w).setCell (fun _ => .inl rfl) _
  refine ⟨h.block (0, 0) ht (fun _ _ => rfl) (fun q hq => h.fresh q (by simpa using hq)) rfl ?_ (.inl ⟨by decide, rfl, rfl⟩) (.inl ⟨by decide, rfl, rfl⟩) (.inl ⟨by decide, rfl, rfl⟩) (fun j => ?_) h.lines h.two h.nb, h.step_set _ _ _ rfl rfl⟩
  · rw [heap_setCell_self _ h.blk, rcells_set r (r.setOv k nilSlice) S { S with out := upd S.out k [] } (104 + k) nilSlice (by rw [rcell_own k hk]; show (if k = k then nilSlice else _) = _; rw [if_pos rfl]) (fun j hj => rcell_setOv k nilSlice _ ⟨rfl, rfl⟩ [] j hj)]
  · by_cases hj : j = k
    · subst hj
      right
      show SliceT _ _ _ _ _ (if j = j then nilSlice else r.ov j) (bcells (upd S.out (j : Int) [] (j : Int)))
      rw [if_pos rfl, upd_self]
      exact SliceT.nil _ _ _ _ _
    · left
      refine ⟨(by intro e; cases e), ?_, ?_⟩
      · show (if j = k then nilSlice else r.ov j) = r.ov j
        rw [if_neg hj]
      · show upd S.out (k : Int) [] (j : Int) = S.out j
        rw [upd_ne _ _ (by omega)]

theorem RRep.set_last (h : RRep r S w) (hb : r.bg = true) (k : Int) : RRep r { S with last := k } (w.setCell ⟨r.g.c, 204, none⟩ (.int .i64 k)) ∧ Step r.g r.g w (w.setCell ⟨r.g.c, 204, none⟩ (.int .i64 k)) :=
  h.scalar (r' := r) (S' := { S with last := k }) 204 _ rfl ⟨rfl, rfl, rfl⟩ ⟨rfl, rfl, rfl, rfl⟩ (by simp [rcell, hb]) (fun j hj => by unfold rcell; simp only [if_neg hj]) h.two (fun e => by rw [hb] at e; cases e)

theorem RRep.new_waiting {w1 : World} {v' : Value} {t : List Ln} {L : Int → List Bytes} (h : RRep r S w) (ht : Turn (fun _ => False) w w1) (h1 : SliceAt w1 68 2 v' (lcells t)) (hw : ∀ b, v'.ownBlock = some b → w.heap.size ≤ b) (hL : ∀ k, L k = textsOf k t) :
    ∃ r', RRep r' { S with lines := L } (w1.setCell ⟨r.g.c, 3, none⟩ v') ∧ Step r.g r'.g w (w1.setCell ⟨r.g.c, 3, none⟩ v') ∧ r'.bg = r.bg ∧ r'.wt = t := by
  have hc := heap_lt h.blk
  have hb1 : w1.heap[r.g.c]? = some (.cells (rcells r S) 48 (0, 0)) := by rw [ht.block r.g.c hc (fun h => h)]; exact h.blk
  have t1 : Turn (fun k => k = r.g.c ∨ r.g.ρ k = (4, 0)) w (w1.setCell ⟨r.g.c, 3, none⟩ v') := (ht.mono (fun k _ hk => hk.elim)).setCell (fun _ => .inl rfl) v'
  have hz : (w1.setCell ⟨r.g.c, 3, none⟩ v').heap.size = w1.heap.size := by simp
  have old : ∀ k, k < w.heap.size → retag r.g.ρ w.heap.size w1.heap.size (4, 0) k = r.g.ρ k := fun k hk => retag_old r.g.ρ _ hk
  have g2 : SliceT (retag r.g.ρ w.heap.size w1.heap.size (4, 0)) (4, 0) w1 68 2 v' (lcells t) := ⟨h1, fun b hb => retag_new r.g.ρ _ (hw b hb) (h1.lt b hb)⟩
  refine ⟨{ r with g := { r.g with ρ := retag r.g.ρ w.heap.size w1.heap.size (4, 0) }, wv := v', wt := t }, h.block (4, 0) t1 old ?_ rfl ?_ (.inl ⟨by decide, rfl, rfl⟩) (.inl ⟨by decide, rfl, rfl⟩) (.inr ?_) (fun k => .inl ⟨(by intro e; cases e), rfl, rfl⟩) hL h.two h.nb, ⟨t1.mono fun k _ hk => ?_, old, rfl⟩, rfl, rfl⟩
  · intro k hk
    rw [hz] at hk
    show (retag r.g.ρ w.heap.size w1.heap.size (4, 0) k).1 = 0
    unfold retag
    rw [if_neg (by omega)]
    exact h.fresh k (by have := ht.size; omega)
  · rw [heap_setCell_self v' hb1, rcells_set r { r with g := { r.g with ρ := retag r.g.ρ w.heap.size w1.heap.size (4, 0) }, wv := v', wt := t } S { S with lines := L } 3 v' rfl (fun j hj => by unfold rcell; simp only [if_neg hj])]
  · exact g2.keep (fun k hk hr => heap_setCell_ne v' (fun e => by
      have h2 : k = r.g.c := e
      rw [h2, old _ hc, h.tc] at hr
      cases hr)) (fun _ _ => rfl)
  · rcases hk with rfl | hk
    · rw [h.tc]; decide
    · rw [hk]; decide
end
end Go.Con
