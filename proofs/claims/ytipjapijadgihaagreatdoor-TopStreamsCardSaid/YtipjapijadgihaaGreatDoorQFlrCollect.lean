/-
  slices.Collect over slices.Chunk: a slice of pieces.
-/
import Derived.Test.YtipjapijadgihaaGreatDoorQFlrFresh
set_option linter.unusedVariables false

namespace Go.Flr
open Go.Own Go.RowKit Go.Proofs Go.Shelf
attribute [local go_sem] Oper.semAt_some

theorem cell_new_l (W : World) (v : Value) (t : TypeId) : (W.alloc (.cells #[v] t)).cell? ⟨W.heap.size, 0, none⟩ = some v ∧ (W.alloc (.cells #[v] t)).frozen? ⟨W.heap.size, 0, none⟩ = false :=
  ⟨cell_at (heap_alloc_new W _) rfl, frozen_at (heap_alloc_new W _)⟩
theorem cell_alloc_l {W : World} {a : Addr} {v : Value} (o : Obj) (h : W.cell? a = some v) : (W.alloc o).cell? a = some v := cell_kept h (World.grownBy_alloc W o none) (fun r e => by cases e)
theorem frozen_alloc_l {W : World} {a : Addr} {v : Value} (o : Obj) (h : W.cell? a = some v) (hf : W.frozen? a = false) : (W.alloc o).frozen? a = false := (frozen_kept h (World.grownBy_alloc W o none) (fun r e => by cases e)).trans hf
theorem cell_lt {w : World} {p : Addr} {v : Value} (h : w.cell? p = some v) : p.block < w.heap.size := World.block_lt_of_cell? w _ h
theorem SliceAt.cells_kept {w w' : World} {e : TypeId} {sz : Nat} {v : Value} {xs : List Value} (h : SliceAt w e sz v xs) (hc : ∀ (k : Nat) (o : Obj), w.heap[k]? = some o → o.isCells = true → w'.heap[k]? = some o) : SliceAt w' e sz v xs := by
  rcases h with h | ⟨g, off, n, cap, cur, rfl, hg, r⟩
  · exact .inl h
  · exact .inr ⟨g, off, n, cap, cur, rfl, hc g _ hg rfl, r⟩
theorem KeepsOthers.of_turn {T : Nat → Prop} {w w' : World} (ht : Turn T w w') (hT : ∀ (k : Nat) (o : Obj), T k → w.heap[k]? = some o → o.isCells = true) : KeepsOthers w w' :=
  ⟨ht.size, fun k o hk ho => (ht.block k (heap_lt hk) (fun hh => by rw [hT k o hh hk] at ho; cases ho)).trans hk⟩
theorem SliceAt.isCells {w : World} {e : TypeId} {sz : Nat} {v : Value} {xs : List Value} (h : SliceAt w e sz v xs) : ∀ (k : Nat) (o : Obj), v.ownBlock = some k → w.heap[k]? = some o → o.isCells = true := by
  rcases h with ⟨rfl, _⟩ | ⟨g, off, n, cap, cur, rfl, hg, _⟩
  · intro k o hk; simp [Value.ownBlock] at hk
  · intro k o hk ho
    simp [Value.ownBlock] at hk; subst hk
    rw [hg] at ho; cases ho; rfl
theorem elemBytes : Elem Tryz.prog 30 1 24 (.slice none 0 0) := Elem.mk' (by kernel_rfl) rfl (by decide)

/-- An append whose run is known. -/
theorem wpListIn_append_run {F : Fence} {nF : Nat} {P : Program} {w w' : World} {ops : Array Oper} {rest : List Oper} {o : Oper} {a : Act} {Q : Exit → Act → World → Prop} {v' : Value} (hgd : o.guard = none) (s x : Operand) (t u : TypeId)
    (ho : o.op = .call { callee := .builtin .append, args := #[s, x], argTypes := #[t, u] }) (v xv : Value) (hs : a.eval s = v) (hx : a.eval x = xv) (hr : (Builtin.append_ #[t, u] o.type #[v, xv]).run P w = .ok v' w')
    (h : wpListIn F nF P ops Q rest (a.put o.dst v') w') : wpListIn F nF P ops Q (o :: rest) a w := by
  refine wpListIn_plain hgd fun K hK => ?_
  unfold Oper.wpIn
  refine ⟨by simp [Oper.about, ho, resolve, Target.leads, Sem.run_pure], ?_⟩
  rw [Oper.semAt_plain F _ _ (by rw [ho]; intro c hc'; cases hc')]
  simp [execOp, ho, resolve, invoke, builtin, hs, hx, hr, Result.andThen]
  exact hK _ _ h

/-- The pieces of a slice of nn bytes. -/
def chunks (b o nn : Nat) (l : List Nat) : List Value := l.map (chunkV b o nn)
theorem chunks_append (b o nn : Nat) (l m : List Nat) : chunks b o nn (l ++ m) = chunks b o nn l ++ chunks b o nn m := by simp [chunks]
theorem piecesN_le' {n m : Nat} (h : n ≤ m) : piecesN n ≤ m + 1 := by unfold piecesN; omega

theorem chunk_stops (n : Nat) (hn : 1 ≤ n) (Bd Bs n₀ b o nn c : Nat) (da : Option Addr) (hda : 0 < nn → da = some ⟨b, o, none⟩) (hnn : nn ≤ 100000) (hc : nn ≤ c) (w : World) (hn₀ : n₀ ≤ w.heap.size) (hB1 : Bd < n₀) (hB2 : Bs < n₀)
    (hBd : w.cell? ⟨Bd, 0, none⟩ = some (.slice da nn c)) (hBs : w.cell? ⟨Bs, 0, none⟩ = some (.int .i64 123)) :
    SeqStopsK Fence.wide n Tryz.prog 100 #[pt Bd, pt Bs] (fun x : Nat => #[chunkV b o nn x]) (Below n₀) (fun ys => ys = List.range (piecesN nn)) (fun _ => True) (piecesN nn) w := fun l J Jx W hW hJ _ hY h0 =>
  chunk1_in n hn l Bd Bs n₀ b o nn c da hda hnn hc hB1 hB2 J Jx (fun s m W hs => hJ s W _ none hs ⟨rfl, rfl, rfl, Nat.le_refl _, fun _ _ _ => rfl⟩ (fun r e => by cases e)) hY W
    ((hW.cell (p := ⟨Bd, 0, none⟩) (by show Bd < w.heap.size; omega)).trans hBd) ((hW.cell (p := ⟨Bs, 0, none⟩) (by show Bs < w.heap.size; omega)).trans hBs) h0

def ApI (w : World) (b o nn : Nat) (pre : List Nat) (W : World) : Prop :=
  (∃ v, W.cell? ⟨w.heap.size, 0, none⟩ = some v ∧ W.frozen? ⟨w.heap.size, 0, none⟩ = false ∧ SliceAt W 30 1 v (chunks b o nn pre) ∧ ∀ k, v.ownBlock = some k → w.heap.size < k) ∧ Below w.heap.size w W

set_option maxRecDepth 100000 in
set_option maxHeartbeats 2000000 in
theorem append_in (n : Nat) (hn : 2 ≤ n) (Bd Bs b o nn c : Nat) (da : Option Addr) (hda : 0 < nn → da = some ⟨b, o, none⟩) (hnn : nn ≤ 100000) (hc : nn ≤ c) (w : World)
    (hBd : w.cell? ⟨Bd, 0, none⟩ = some (.slice da nn c)) (hBs : w.cell? ⟨Bs, 0, none⟩ = some (.int .i64 123)) :
    CallsIn Fence.wide n Tryz.prog 99 #[.slice none 0 0, .func (.func 100) #[] #[pt Bd, pt Bs]] w fun e w' => ∃ v, e = .returned v ∧ SliceAt w' 30 1 v (chunks b o nn (List.range (piecesN nn))) ∧ Below w.heap.size w w' ∧ ∀ k, v.ownBlock = some k → w.heap.size ≤ k := by
  have hro : Fence.wide.round = none := rfl
  have hBd1 := cell_lt hBd
  have hBs1 := cell_lt hBs
  have hst := chunk_stops (n - 1) (by omega) Bd Bs w.heap.size b o nn c da hda hnn hc (w.alloc (.cells #[.slice none 0 0] 147)) (by simp) hBd1 hBs1 (cell_alloc_l _ hBd) (cell_alloc_l _ hBs)
  refine callsIn_of_wp_marks Tryz.func99 rfl trivial ?_ rfl
  simp only [Tryz.ntmps99, List.size_toArray, List.length_cons, List.length_nil, Nat.reduceAdd, Nat.reduceSub, Array.replicate_succ, Array.replicate_zero, List.push_toArray, List.append_toArray, List.nil_append, List.cons_append]
  have c0 := cell_new_l w (.slice none 0 0) 147
  obtain ⟨w0, hw0⟩ : ∃ w0, w.alloc (.cells #[.slice none 0 0] 147) = w0 := ⟨_, rfl⟩
  have hB0 : Below w.heap.size w w0 := by rw [← hw0]; exact (Below.refl _ w).alloc (Nat.le_refl _) _
  have hz0 : w0.heap.size = w.heap.size + 1 := by rw [← hw0]; simp
  rw [hw0] at c0 hst
  have HST := Lib.hid hst
  have C0 := Lib.hid c0
  clear hst c0
  gi_wp2
  clear hw0
  refine wpIn_rangeFunc_ownF hro (by omega) (gf := 100) (lb := #[pt Bd, pt Bs]) rfl trivial (enters_of Tryz.func100 (by kernel_rfl) rfl)
    HST.out belowK_t (belowK_b (by omega)) (Below.refl _ _) (fun _ => rfl)
    (ApI w b o nn) (fun _ _ _ => False)
    (fun pre W W' row hs hg hr => by
      obtain ⟨⟨v, h1, h2, h3, h4⟩, h5⟩ := hs
      have hr' : ∀ r, row = some r → ∃ o : Obj, W.heap[r]? = some o ∧ o.isCells = false := fun r e => (hr r e).2
      refine ⟨⟨v, cell_kept h1 hg hr', (frozen_kept h1 hg hr').trans h2, SliceAt.cells_kept h3 fun k o hk ho => ?_, h4⟩, h5.grown hg h5.size (fun k e => by have := (hr k e).1; omega)⟩
      by_cases hrow : row = some k
      · obtain ⟨o', q1, q2⟩ := hr' k hrow
        rw [hk] at q1; cases q1; rw [ho] at q2; cases q2
      · exact (hg.block k (heap_lt hk) (fun e => hrow e.symm)).trans hk)
    (fun _ _ _ _ _ hs _ _ => hs)
    ⟨⟨_, C0.out.1, C0.out.2, SliceAt.nil _ _ _, fun k hk => by simp [Value.ownBlock] at hk⟩, hB0⟩
    (fun x => { tmps := #[.slice none 0 0, .func (.func 100) #[] #[pt Bd, pt Bs], pt w.heap.size, undef, .slice none 0 0, chunkV b o nn x, .func (.func 100) #[] #[pt Bd, pt Bs], chunkV b o nn x, undef, undef, undef, undef, undef], defers := [] }) ?assign ?body ?done ?stop
  case assign =>
    intro l x W K hK
    gi_wp2
    exact hK
  case body =>
    rintro l pre x W ⟨⟨v, hc, hf, hv, ho⟩, hB⟩ hlen
    have hN2 := piecesN_le' hnn
    have hlen2 : pre.length < 100001 := by omega
    obtain ⟨x1, x2, x3, hx⟩ : ∃ x1 x2 x3, chunkV b o nn x = .slice x1 x2 x3 := ⟨_, _, _, rfl⟩
    obtain ⟨v2, w2, hrun, hs2, ht2, hw2, hn2⟩ := run_append (P := Tryz.prog) (W.alloc (.cells #[chunkV b o nn x] 30)) 147 147 147 30 1 24 (.slice none 0 0) Tryz.underlying147 (.inr ⟨_, Tryz.underlying147⟩) elemBytes
      v _ (hv.turn ((Turn.refl (fun _ => False) W).alloc _) (fun _ _ e => e)) (.slice (some ⟨W.heap.size, 0, none⟩) 1 1) 1 [chunkV b o nn x]
      (Src.one rfl (heap_alloc_new W _)) (by intro u hu; simp at hu; subst hu; rw [hx]; rfl)
      (by simp [chunks]; omega) (by simp [chunks]; omega)
    have hbx : w.heap.size < W.heap.size := cell_lt hc
    have hvb : ∀ k, v.ownBlock = some k → k ≠ w.heap.size := fun k hk e => by have := ho k hk; omega
    have hc2 : w2.cell? ⟨w.heap.size, 0, none⟩ = some v := by
      rw [ht2.cell (p := ⟨w.heap.size, 0, none⟩) (fun e => hvb _ e rfl) (by simp; omega)]
      exact cell_alloc_l _ hc
    have hf2 : w2.frozen? ⟨w.heap.size, 0, none⟩ = false := by
      rw [ht2.frozen (p := ⟨w.heap.size, 0, none⟩) (fun e => hvb _ e rfl) (by simp; omega)]
      exact frozen_alloc_l _ hc hf
    have Hs2 := Lib.hid (And.intro hs2 hw2)
    have Hc := Lib.hid (And.intro ho hB)
    have Hv := Lib.hid hv
    have HX := Lib.hid hx
    rw [hx] at hrun ht2 Hs2 ⊢
    clear hx
    clear hn2 hs2 hw2 hlen hlen2 hvb
    obtain ⟨va, vn, vc, rfl, -⟩ := Hv.out.form
    obtain ⟨pa, pn, pc, rfl, -⟩ := Hs2.out.1.form
    have HR := Lib.hid hrun
    clear hrun
    gi_wp2_with (gi_at_builtin; refine wpListIn_append_run rfl _ _ _ _ rfl _ _ rfl rfl HR.out ?_)
    have K1 : KeepsOthers W (w2.setCell ⟨w.heap.size, 0, none⟩ (.slice pa pn pc)) :=
      (((KeepsOthers.alloc W (.cells #[.slice x1 x2 x3] 30)).trans (KeepsOthers.of_turn ht2 fun k o hk hho => SliceAt.isCells (Hv.out.turn ((Turn.refl (fun _ => False) W).alloc _) (fun _ _ e => e)) k o hk hho))).trans (KeepsOthers.setCell _ _ _)
    have B1 : Below w.heap.size W (w2.setCell ⟨w.heap.size, 0, none⟩ (.slice pa pn pc)) := by
      have q1 : Below w.heap.size W (W.alloc (.cells #[.slice x1 x2 x3] 30)) := (Below.refl _ W).alloc (by omega) _
      have q2 : Below w.heap.size (W.alloc (.cells #[.slice x1 x2 x3] 30)) w2 := ⟨ht2.os, ht2.tape, ht2.output, ht2.size, fun k hk => ht2.block k (by simp; omega) (fun e => by have := Hc.out.1 k e; omega)⟩
      exact (q1.trans q2).setCell (p := ⟨w.heap.size, 0, none⟩) (Nat.le_refl _) _
    refine ⟨K1, B1, ⟨.slice pa pn pc, World.cell?_setCell_same' _ _ _ (by rw [hc2]; rfl), by rw [World.frozen?_setCell]; exact hf2, ?_, fun k hk => ?_⟩, Hc.out.2.trans B1⟩
    · have e1 : chunks b o nn (pre ++ [x]) = chunks b o nn pre ++ [.slice x1 x2 x3] := by
        rw [chunks_append, ← HX.out]; rfl
      rw [e1]
      refine Hs2.out.1.keep fun k hk => heap_setCell_ne _ ?_
      intro e
      rcases Hs2.out.2 with q | q
      · rw [q] at hk; have := Hc.out.1 k hk; have e' : k = w.heap.size := e; omega
      · rw [q] at hk; cases hk; simp at e; omega
    · rcases Hs2.out.2 with q | q
      · rw [q] at hk; exact Hc.out.1 k hk
      · rw [q] at hk; cases hk; simp; omega
  case done =>
    rintro D ys W hD hys ⟨⟨v, hc, hf, hv, ho⟩, hB⟩ hK
    have HY := Lib.hid hys
    clear hys
    gi_wp2
    refine ⟨by simp, .inl ⟨_, _, rfl, run_takeDeferred hK, ?_⟩⟩
    have kg := grownBy_putObj' W D (.deferred none)
    refine ⟨_, results_tmp rfl _ _ _, v, rfl, SliceAt.cells_kept (w := W) ?_ (fun k o hk ho => ?_), hB.trans (belowK_b (w := w) (Nat.le_refl _) W D _ _ (by omega) hK rfl rfl), fun k hk => Nat.le_of_lt (ho k hk)⟩
    · rw [HY.out] at hv; exact hv
    · by_cases hkD : k = D
      · subst hkD; rw [hK] at hk; cases hk; cases ho
      · exact (kg.block k (heap_lt hk) (fun e => hkD (by cases e; rfl))).trans hk
  case stop =>
    rintro D c pre W hD hpre hF hK
    exact hF.elim

section
variable {w : World}

theorem collect_calls (Bd Bs b o nn c : Nat) (da : Option Addr) (hda : 0 < nn → da = some ⟨b, o, none⟩) (hnn : nn ≤ 100000) (hc : nn ≤ c)
    (hBd : w.cell? ⟨Bd, 0, none⟩ = some (.slice da nn c)) (hBs : w.cell? ⟨Bs, 0, none⟩ = some (.int .i64 123)) :
    Calls Tryz.prog 61 #[.func (.func 100) #[] #[pt Bd, pt Bs]] w fun e w' => ∃ v, e = .returned v ∧ Own1 w w' 30 v (chunks b o nn (List.range (piecesN nn))) := by
  have hA := append_in 3 (by omega) Bd Bs b o nn c da hda hnn hc w hBd hBs
  refine (callsIn_wide (n := 4)).1 ?_
  refine callsIn_of_wp Tryz.func61 rfl trivial ?_ rfl
  simp only [Tryz.ntmps61, List.size_toArray, List.length_cons, List.length_nil, Nat.reduceAdd, Nat.reduceSub, Array.replicate_succ, Array.replicate_zero, List.push_toArray, List.append_toArray, List.nil_append, List.cons_append]
  have HA := Lib.hid hA
  clear hA hBd hBs
  gi_wp2_with (refine ⟨trivial, ?_⟩; gi_at_call 99; refine HA.out.mono ?_; rintro e w' ⟨v, rfl, hs, hb, ho⟩; have H := Lib.hid (And.intro hs (And.intro hb ho)); clear hs hb ho)
  go_ret
  exact ⟨v, rfl, H.out.1, H.out.2.2, turn_of_below H.out.2.1⟩

/-- Chunk: an iterator's value over boxes of its own. -/
theorem chunk_calls (da : Option Addr) (nn c : Nat) (w : World) : Calls Tryz.prog 62 #[.slice da nn c, .int .i64 123] w fun e w' => e = .returned (.func (.func 100) #[] #[pt w.heap.size, pt (w.heap.size + 1)]) ∧ w' = (w.alloc (.cells #[.slice da nn c] 30)).alloc (.cells #[.int .i64 123] 3) := by
  have c1 := cell_new_l (w.alloc (.cells #[.slice da nn c] 30)) (.int .i64 123) 3
  simp only [World.size_alloc] at c1
  obtain ⟨c1, -⟩ := c1
  go_enter Tryz.func62, Tryz.ntmps62
  go_wp2_with fail
  go_ret
  exact ⟨rfl, rfl⟩
end
end Go.Flr
