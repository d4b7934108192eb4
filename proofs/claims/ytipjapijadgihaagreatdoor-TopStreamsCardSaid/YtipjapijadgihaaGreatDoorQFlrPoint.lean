/-
  lead, point: the number at a place, read and written. (Printed by lib/pl.py out of flr/gen/FlrPoint.src.)
-/
import Derived.Test.YtipjapijadgihaaGreatDoorQFlrWrite
set_option linter.unusedVariables false

namespace Go.Flr
open Go.Own Go.RowKit Go.Proofs

/-- A place as a value: a block, and where in it. -/
abbrev plc (b a : Nat) : Value := .agg #[.int .i64 (b : Nat), .int .i64 (a : Nat)]

theorem exec_alloc_block {a : Act} {o : Oper} {W : World} (ho : o.op = .alloc 63) :
    (execOp a.eval o).run Tryz.prog W = .ok (.value (pt W.heap.size)) (W.alloc (.cells (bcells zeros).toArray 63)) := by
  unfold execOp
  simp only [ho, Sem.run_bind, Sem.run_pure]
  unfold Instr.alloc
  simp only [Sem.run_bind, zeroBlock, Result.andThen_ok]
  simp [newVar, newRow, Value.cells]

section
variable {w0 w w' w1 : World} {d g : Nat} {D : List Bytes} {L : List (Nat × Bytes)} {lv : Value}

set_option maxRecDepth 10000 in
set_option maxHeartbeats 2000000 in
theorem lead_calls (h : DI w0 d g D L lv w) {pb pa : Nat} (hp : pb < D.length) (ha : pa ≤ 126) :
    Calls Tryz.prog 95 #[pt d, plc pb pa] w fun e w' => e = .returned (.int .i64 (numAt (atD D pb) pa : Nat)) ∧ Turn (fun _ => False) w w' := by
  obtain ⟨W, hW⟩ : ∃ W, w.alloc (.cells #[.int .i64 (pb : Nat), .int .i64 (pa : Nat)] 137) = W := ⟨_, rfl⟩
  have T0 : Turn (fun _ => False) w W := by rw [← hW]; exact (Turn.refl _ w).alloc _
  have hD := h.new T0
  obtain ⟨q, hq⟩ : ∃ q, w.heap.size = q := ⟨_, rfl⟩
  have p0 : W.cell? ⟨q, 0, none⟩ = some (.int .i64 (pb : Nat)) := by rw [← hW, ← hq]; exact cell_at (heap_alloc_new w _) rfl
  have p1 : W.cell? ⟨q, 1, none⟩ = some (.int .i64 (pa : Nat)) := by rw [← hW, ← hq]; exact cell_at (heap_alloc_new w _) rfl
  obtain ⟨n, hn⟩ : ∃ n, D.length = n := ⟨_, rfl⟩
  have hdb := hD.db
  rw [hn] at hdb
  obtain ⟨c0, -, -, -, -⟩ := disk_cells hdb
  have HN : ∀ k, Calls Tryz.prog 59 #[.pointer (some ⟨g, pb * 128, none⟩), .int .i64 pa] (W.drewN k) fun e w' => e = .returned (.int .i64 (numAt (atD D pb) pa : Nat)) ∧ ∃ m, w' = (W.drewN k).drewN m := fun k =>
    number_calls (fun j v hv => by simpa using hD.range hp j v hv) (hD.len.at _) ha
  have H := Lib.hid T0
  have HC := Lib.hid HN
  rw [hn] at hp
  obtain ⟨x, hx⟩ : ∃ x, numAt (atD D pb) pa = x := ⟨_, rfl⟩
  rw [hx] at HC ⊢
  clear h T0 hD hn hdb HN hx
  go_enter Tryz.func95, Tryz.ntmps95
  go_upto_region 1 with fail
  clear hW hq
  go_quiet ((go_at_call 59; exact Calls.quiet_of (HC.out _)))
  go_wp2_with fail
  go_ret
  exact ⟨rfl, turn_drewN H.out _⟩

set_option maxRecDepth 10000 in
set_option maxHeartbeats 2000000 in
theorem point_calls (h : DI w0 d g D L lv w) {pb pa x : Nat} (hp : pb < D.length) (ha : pa ≤ 126) (hx : x < 65536) (hL : L.length ≤ 100000) :
    Calls Tryz.prog 64 #[pt d, plc pb pa, .int .i64 x] w fun e w' => e = .returned (.tuple #[]) ∧ ∃ lv', DI w0 d g (D.set pb (summedB (putAt (atD D pb) pa x))) (L ++ [(pb, summedB (putAt (atD D pb) pa x))]) lv' w' ∧ DStep d g w lv w' lv' := by
  obtain ⟨W, hW⟩ : ∃ W, w.alloc (.cells #[.int .i64 (pb : Nat), .int .i64 (pa : Nat)] 137) = W := ⟨_, rfl⟩
  have T0 : Turn (fun _ => False) w W := by rw [← hW]; exact (Turn.refl _ w).alloc _
  obtain ⟨q, hq⟩ : ∃ q, w.heap.size = q := ⟨_, rfl⟩
  have hpl : W.heap[q]? = some (.cells #[.int .i64 (pb : Nat), .int .i64 (pa : Nat)] 137 (0, 0)) := by rw [← hW, ← hq]; exact heap_alloc_new w _
  have hD := h.new T0
  obtain ⟨n, hn⟩ : ∃ n, D.length = n := ⟨_, rfl⟩
  obtain ⟨r, hr⟩ : ∃ r, W.drew.heap.size = r := ⟨_, rfl⟩
  obtain ⟨W2, hW2⟩ : ∃ W2, W.drew.alloc (.cells (bcells zeros).toArray 63) = W2 := ⟨_, rfl⟩
  have T2 : Turn (fun _ => False) W W2 := by rw [← hW2]; exact (Turn.refl _ W).drew.alloc _
  have b2 : Box W2 r zeros := by rw [← hW2, ← hr]; exact heap_alloc_new W.drew _
  have hB : (atD D pb).length = 128 := hD.len.at _
  have hD2 := hD.new T2
  have hpl2 := (T2.block q (heap_lt hpl) (fun e => e)).trans hpl
  have hqr : q < r := by rw [← hr]; exact heap_lt hpl
  have hdr : d < r := by rw [← hr]; exact hD.dlt
  have hgr : g < r := by rw [← hr]; exact hD.glt
  obtain ⟨W3, hW3⟩ : ∃ W3, W2.setCells r 0 (bcells (atD D pb)) = W3 := ⟨_, rfl⟩
  have e3 : W2.setCells r 0 (bcells (atD D pb)) = W2.setRow r (bcells (atD D pb)).toArray := by
    rw [setCells_eq_setRow (P := Tryz.prog) b2 (by simp [hB, zeros]) (bcells_one _)]
    congr 2
    simp [hB, zeros]
  have b3 : Box W3 r (atD D pb) := by rw [← hW3, e3]; exact b2.setRow
  have T3 : Turn (fun k => k = r) W2 W3 := by rw [← hW3, e3]; exact (Turn.refl (fun k => k = r) W2).setRow (fun _ => rfl) _
  have z2 : W2.heap.size = r + 1 := by rw [← hW2, ← hr]; simp
  have T13 : Turn (fun _ => False) W W3 := ⟨T3.os.trans T2.os, T3.tape.trans T2.tape, T3.output.trans T2.output, Nat.le_trans T2.size T3.size, fun k hk _ => by
    have : W.heap.size = r := by rw [← hr]; rfl
    rw [T3.block k (by omega) (by omega)]; exact T2.block k hk (fun e => e)⟩
  have hD3 := hD.new T13
  have hpl3 := (T13.block q (heap_lt hpl) (fun e => e)).trans hpl
  have hdb := hD.db
  have hdb2 := hD2.db
  have hdb3 := hD3.db
  rw [hn] at hdb hdb2 hdb3
  obtain ⟨c0, -, -, -, -⟩ := disk_cells hdb
  obtain ⟨e0, -, -, -, -⟩ := disk_cells hdb2
  have p0 : W.cell? ⟨q, 0, none⟩ = some (.int .i64 (pb : Nat)) := cell_at hpl rfl
  have p1 : W.cell? ⟨q, 1, none⟩ = some (.int .i64 (pa : Nat)) := cell_at hpl rfl
  have q0 : W2.cell? ⟨q, 0, none⟩ = some (.int .i64 (pb : Nat)) := cell_at hpl2 rfl
  have q1 : W2.cell? ⟨q, 1, none⟩ = some (.int .i64 (pa : Nat)) := cell_at hpl2 rfl
  have r0 : W3.cell? ⟨q, 0, none⟩ = some (.int .i64 (pb : Nat)) := cell_at hpl3 rfl
  have r1 : W3.cell? ⟨q, 1, none⟩ = some (.int .i64 (pa : Nat)) := cell_at hpl3 rfl
  have h00 : W.drew.heap.size = r := hr
  have HT := Lib.hid (And.intro (T0.trans T13) (And.intro (show w.heap.size ≤ r by rw [← hr]; exact T0.size) z2))
  have H := Lib.hid (And.intro hD (And.intro hD2 (And.intro hD3 (And.intro b2 (And.intro b3 (And.intro hB (And.intro hp (And.intro hn (And.intro hW2 (And.intro hW3 (And.intro hr (And.intro hpl3 (And.intro hqr hL)))))))))))))
  rw [hn] at hp
  clear h T0 hD hD2 hD3 b2 b3 hB hn hW2 hW3 hr hdb hdb2 hdb3 hpl hpl2 hpl3 T2 T3 z2 T13 h00 e3 hL
  go_enter Tryz.func64, Tryz.ntmps64
  go_upto_region 1 with fail
  clear hW hq
  refine wp_region_planG (aF := ?aFp) [8, 9] [[], [8], [8, 9]] 2 [(0, 0, 0), (0, 1, 1), (1, 0, 0), (1, 1, 1), (2, 0, 0), (2, 1, 1), (3, 0, 0), (3, 1, 1), (4, 0, 0), (4, 1, 1), (5, 0, 0), (5, 1, 1), (6, 0, 0), (6, 1, 1), (7, 0, 0), (7, 1, 1), (8, 0, 1), (9, 1, 2)]
    [W.drew, W2, W3]
    [pt d, pt d, pt d, .slice (some ⟨g, 0, none⟩) n n, pt q, .int .i64 pb, .pointer (some ⟨g, pb * 128, none⟩), agg (atD D pb), pt r, undef]
    (by kernel_rfl) (by kernel_rfl) ?hFp rfl rfl rfl ?hobp ?hendp
  case hFp => simp only [putAll, Act.put]; go_simp; rfl
  case hobp =>
    repeat' (first
      | exact oblsG_nil
      | (refine oblsG_cons rfl rfl rfl ?_ ?_)
      | exact Runs.value rfl (exec_load_block (.tmp 13) rfl rfl H.out.2.2.2.2.2.1 ((World.rangeAt_drew _ _ _ _).2 (H.out.1.range H.out.2.2.2.2.2.2.1))) rfl
      | exact Runs.value rfl (exec_load_block (.tmp 13) rfl rfl H.out.2.2.2.2.2.1 (H.out.2.1.range H.out.2.2.2.2.2.2.1)) rfl
      | exact Runs.value rfl (exec_alloc_block rfl) (by rw [H.out.2.2.2.2.2.2.2.2.1, H.out.2.2.2.2.2.2.2.2.2.2.1]; rfl)
      | exact Runs.skip rfl rfl (exec_store_block (.tmp 6) (.tmp 14) rfl rfl rfl H.out.2.2.2.2.2.1 H.out.2.2.2.1.there) (by rw [H.out.2.2.2.2.2.2.2.2.2.1])
      | (apply Runs.skip rfl rfl; (focus (go_simp; try exact rfl)); exact rfl)
      | (apply Runs.value rfl; (focus (go_simp; try exact rfl)); exact rfl))
  case hendp =>
    have HP := Lib.hid (put_calls (i := pa) H.out.2.2.2.2.1 H.out.2.2.2.2.2.1 ha hx)
    clear p0 p1 q0 q1 c0 e0 r0
    go_wp2_with fail
    refine HP.out.mono ?_
    rintro e5 w5 ⟨rfl, b5, t5, z5⟩
    have hd5 := DI.keep_new (w := W3) H.out.1 H.out.2.2.1 (r := r) (by rw [← H.out.2.2.2.2.2.2.2.2.2.2.1]; exact Nat.le_refl _) t5
    have hl5 := t5.block q (heap_lt H.out.2.2.2.2.2.2.2.2.2.2.2.1) (by have := H.out.2.2.2.2.2.2.2.2.2.2.2.2.1; omega)
    have s0 : w5.cell? ⟨q, 0, none⟩ = some (.int .i64 (pb : Nat)) := cell_at (hl5.trans H.out.2.2.2.2.2.2.2.2.2.2.2.1) rfl
    have T5 : Turn (fun _ => False) w w5 := ⟨t5.os.trans HT.out.1.os, t5.tape.trans HT.out.1.tape, t5.output.trans HT.out.1.output, Nat.le_trans HT.out.1.size t5.size, fun k hk _ => by
      have := HT.out.1.size; have := HT.out.2.1
      rw [t5.block k (by omega) (by omega)]; exact HT.out.1.block k hk (fun e => e)⟩
    have HL := Lib.hid (And.intro hd5 (And.intro b5 T5))
    clear hl5 hd5 b5 t5 z5 r1 T5
    have HWr := Lib.hid (write_calls HL.out.1 H.out.2.2.2.2.2.2.1 (show (putAt (atD D pb) pa x).length = 128 by rw [putAt_length]; exact H.out.2.2.2.2.2.1) H.out.2.2.2.2.2.2.2.2.2.2.2.2.2)
    go_wp2_with (first
      | (refine wpList_load_block rfl _ rfl rfl (B := putAt (atD D pb) pa x) (by rw [putAt_length]; exact H.out.2.2.2.2.2.1) HL.out.2.1.range ?_)
      | (refine HWr.out.mono ?_; rintro e6 w6 ⟨rfl, lv6, h6, s6⟩; have H6 := Lib.hid (And.intro h6 s6); clear h6 s6))
    go_end0
    exact ⟨rfl, lv6, H6.out.1, (DStep.new HL.out.2.2).trans H6.out.2⟩
end
end Go.Flr
