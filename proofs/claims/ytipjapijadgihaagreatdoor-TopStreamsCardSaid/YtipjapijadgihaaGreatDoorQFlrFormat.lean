/-
  Format: a disk with a root alone. (Printed by lib/pl.py out of flr/gen/FlrFormat.src.)
-/
import Derived.Test.YtipjapijadgihaaGreatDoorQFlrPut
set_option linter.unusedVariables false

namespace Go.Flr
open Go.Own Go.RowKit Go.Proofs

/-- A new disk. -/
def newD (n : Nat) : List Bytes := (List.replicate n zeros).set 0 (summedB (zeroB 1))
theorem zeros_length : zeros.length = 128 := by simp [zeros]
theorem allLen_zeros (n : Nat) : AllLen (List.replicate n zeros) := fun b hb => by rw [List.eq_of_mem_replicate hb]; exact zeros_length

section
variable {w : World}

/-- The stages of Format's region: 5 the sum, 7 the store. -/
def FoI (W : World) (g : Nat) (s : Nat) (ξ : Nat → Value) (w : World) : Prop :=
  (s = 0 → w = W) ∧ (s = 1 → Turn (fun _ => False) W w ∧ ξ 5 = agg (summedB (zeroB 1))) ∧ (s = 2 → ∃ wm, Turn (fun _ => False) W wm ∧ w = wm.setCells g (0 * 128) (bcells (summedB (zeroB 1))))

set_option maxRecDepth 10000 in
set_option maxHeartbeats 2000000 in
theorem format_calls {n : Nat} (h16 : 16 ≤ n) (h256 : n ≤ 256) (he : Env w) (h0 : 0 < w.heap.size) :
    Calls Tryz.prog 5 #[.int .i64 n] w fun e w' => ∃ d g, e = .returned (.tuple #[pt d, .int .i64 0]) ∧ DI w d g (newD n) [] (.slice none 0 0) w' := by
  have hmk := make_blocks n (by omega) w
  obtain ⟨g, hg⟩ : ∃ g, w.heap.size = g := ⟨_, rfl⟩
  obtain ⟨W1, hW1⟩ : ∃ W1, w.alloc (.cells (dcells (List.replicate n zeros)).toArray 63) = W1 := ⟨_, rfl⟩
  have T1 : Turn (fun _ => False) w W1 := by rw [← hW1]; exact (Turn.refl _ w).alloc _
  have g1 : W1.heap[g]? = some (.cells (dcells (List.replicate n zeros)).toArray 63 (0, 0)) := by rw [← hW1, ← hg]; exact heap_alloc_new w _
  rw [hW1] at hmk
  obtain ⟨d, hd⟩ : ∃ d, W1.heap.size = d := ⟨_, rfl⟩
  have hgd : g < d := by rw [← hd]; exact heap_lt g1
  obtain ⟨W2, hW2⟩ : ∃ W2, W1.alloc (.cells #[.slice (some ⟨g, 0, none⟩) n n, .slice none 0 0, .slice none 0 0, .int .i64 0] 61) = W2 := ⟨_, rfl⟩
  have T2 : Turn (fun _ => False) W1 W2 := by rw [← hW2]; exact (Turn.refl _ W1).alloc _
  have d2 : W2.heap[d]? = some (.cells #[.slice (some ⟨g, 0, none⟩) n n, .slice none 0 0, .slice none 0 0, .int .i64 0] 61 (0, 0)) := by rw [← hW2, ← hd]; exact heap_alloc_new W1 _
  have hD2 : DI w d g (List.replicate n zeros) [] (.slice none 0 0) W2 :=
    ⟨by rw [List.length_replicate]; exact d2, (T2.block g (heap_lt g1) (fun e => e)).trans g1, allLen_zeros n, by simpa using h16, by simpa using h256, SliceAt.nil _ _ _, fun x hx => by simp at hx, T1.trans T2, by omega, by omega, fun k hk => by simp [Value.ownBlock] at hk, by omega, (he.turn T1 (fun e => e)).turn T2 (fun e => e), h0⟩
  have HB0 := Lib.hid (box_new W2 zeros)
  have H := Lib.hid (And.intro hD2 (And.intro h16 hg))
  clear T1 g1 hgd T2 d2 hD2 he h0
  go_enter Tryz.func5, Tryz.ntmps5
  go_upto_region 4 with fail
  clear hmk hW1 hd hW2 hg
  go_upto_region 5 with (first
    | refine wpList_build_block rfl 1 (by decide) rfl ?_
    | refine wpList_alloc_block rfl rfl ?_
    | (refine wpList_store_box rfl _ _ rfl rfl rfl HB0.out rfl (zeroB_length 1) ?_
       intro w3 b3 t3 z3
       have H3 := Lib.hid (And.intro b3 (And.intro t3 z3))
       clear b3 t3 z3))
  obtain ⟨q, hq⟩ : ∃ q, W2.heap.size = q := ⟨_, rfl⟩
  rw [hq] at H3 ⊢
  have T3 : Turn (fun _ => False) W2 w3 := by
    have t7 := H3.out.2.1
    have a7 := (Turn.refl (fun _ => False) W2).alloc (.cells (bcells zeros).toArray 63)
    exact ⟨t7.os.trans a7.os, t7.tape.trans a7.tape, t7.output.trans a7.output, Nat.le_trans a7.size t7.size, fun k hk _ => by
      rw [t7.block k (by simp; omega) (by omega)]; exact a7.block k hk (fun e => e)⟩
  have D3 := (H.out.1.new T3).new (Turn.refl (fun _ => False) w3).drew
  have HS := Lib.hid (And.intro D3 (And.intro (H3.out.1.keep (w' := w3.drew) rfl) (show (zeroB 1).length = 128 from zeroB_length 1)))
  have hn0 : 0 < n := by omega
  clear T3 D3 hq
  refine wp_region_planH (aX := ?aXf) [5, 7] [[], [5], [5, 7]] 2 [(0, 0, 0), (0, 1, 1), (1, 0, 0), (1, 1, 1), (2, 0, 0), (2, 1, 1), (3, 0, 0), (3, 1, 1), (4, 0, 0), (5, 0, 1), (6, 1, 1), (7, 1, 2)]
    [pt d, pt d, pt d, .slice (some ⟨g, 0, none⟩) n n, agg (zeroB 1), undef, .pointer (some ⟨g, 0 * 128, none⟩), undef] (FoI w3.drew g) (by kernel_rfl) (by kernel_rfl) rfl ?hXf (fun _ => undef) ?h0f ?hobf ?hendf
  case hXf => intro ξ; simp only [mixAll, Act.put]; go_simp; rfl
  case h0f =>
    exact ⟨fun _ => rfl, fun q => absurd q (by decide), fun q => absurd q (by decide)⟩
  case hobf =>
    refine oblsH_cons rfl (stepH_value rfl rfl ?_) ?_
    · rintro ξ w5 h5
      rfl
    refine oblsH_cons rfl (stepH_value rfl rfl ?_) ?_
    · rintro ξ w5 h5
      rfl
    refine oblsH_cons rfl (stepH_value rfl rfl ?_) ?_
    · rintro ξ w5 h5
      rfl
    refine oblsH_cons rfl (stepH_value rfl rfl ?_) ?_
    · rintro ξ w5 h5
      rfl
    refine oblsH_cons rfl (stepH_value rfl rfl ?_) ?_
    · rintro ξ w5 h5
      rfl
    refine oblsH_cons rfl (stepH_value rfl rfl ?_) ?_
    · rintro ξ w5 h5
      rfl
    refine oblsH_cons rfl (stepH_value rfl rfl ?_) ?_
    · rintro ξ w5 h5
      obtain rfl := h5.1 rfl
      have hdb := HS.out.1.db
      rw [List.length_replicate] at hdb
      obtain ⟨c0, -, -, -, -⟩ := disk_cells hdb
      clear hdb
      clear h5
      go_simp
      try rfl
    refine oblsH_cons rfl (stepH_value rfl rfl ?_) ?_
    · rintro ξ w5 h5
      obtain ⟨hT, h22⟩ := h5.2.1 rfl
      have hdb := (HS.out.1.new hT).db
      rw [List.length_replicate] at hdb
      obtain ⟨c0, -, -, -, -⟩ := disk_cells hdb
      clear hdb hT
      clear h5
      go_simp
      try rfl
    refine oblsH_cons rfl (stepH_value rfl rfl ?_) ?_
    · rintro ξ w5 h5
      obtain rfl := h5.1 rfl
      exact exec_load_block (.tmp 5) rfl rfl HS.out.2.2 HS.out.2.1.range
    refine oblsH_cons rfl (stepH_call rfl rfl ?_) ?_
    · rintro ξ w5 h5
      obtain rfl := h5.1 rfl
      refine ⟨22, #[agg (zeroB 1)], by clear h5; go_simp, ?_⟩
      refine (summed_calls HS.out.2.2).mono ?_
      rintro e6 w6 ⟨rfl, hT⟩
      exact ⟨_, rfl, ⟨fun q => absurd q (by decide), fun _ => ⟨hT, rfl⟩, fun q => absurd q (by decide)⟩⟩
    refine oblsH_cons rfl (stepH_value rfl rfl ?_) ?_
    · rintro ξ w5 h5
      obtain ⟨hT, h22⟩ := h5.2.1 rfl
      have hdb := (HS.out.1.new hT).db
      rw [List.length_replicate] at hdb
      obtain ⟨c0, -, -, -, -⟩ := disk_cells hdb
      clear hdb hT
      clear h5
      go_simp
      try rfl
    refine oblsH_cons rfl (stepH_store rfl rfl rfl ?_) ?_
    · rintro ξ w5 h5
      obtain ⟨hT, h22⟩ := h5.2.1 rfl
      refine ⟨_, ?_, ⟨fun q => absurd q (by decide), fun q => absurd q (by decide), fun _ => ⟨w5, hT, rfl⟩⟩⟩
      exact exec_store_block (.tmp 23) (.tmp 22) rfl rfl (by show ξ 5 = _; exact h22) (by rw [summedB_length]; exact HS.out.2.2) ((HS.out.1.new hT).there (k := 0) (by rw [List.length_replicate]; have := H.out.2.1; omega))
    exact oblsH_nil
  case hendf =>
    rintro ξ wB h5
    obtain ⟨wm, hT, rfl⟩ := h5.2.2 rfl
    have hDE := (HS.out.1.new hT).store (k := 0) (by rw [List.length_replicate]; have := H.out.2.1; omega) (B := summedB (zeroB 1)) (by rw [summedB_length]; exact HS.out.2.2)
    have HZ := Lib.hid hDE
    clear h5 hT hDE
    go_wp2_with fail
    go_ret2
    exact ⟨d, g, rfl, HZ.out⟩
end
end Go.Flr

/-
  Do: a put. (Printed by lib/pl.py out of flr/gen/FlrDo.src.)
-/
namespace Go.Flr
open Go.Own Go.RowKit Go.Proofs

section
variable {w0 w w' w1 : World} {d g : Nat} {D D' : List Bytes} {L L' : List (Nat × Bytes)} {lv : Value}

/-- The stages of Do's last region: 8 the code. -/
def CdI (W : World) (s : Nat) (ξ : Nat → Value) (w : World) : Prop := (s = 0 → w = W) ∧ (s = 1 → Turn (fun _ => False) W w ∧ ξ 8 = .int .i64 0)

set_option maxRecDepth 10000 in
set_option maxHeartbeats 4000000 in
theorem do_put (h : DI w0 d g D L lv w) {p : Bytes} {t : ByteArray} {dv : Value}
    (hput : ∀ wr, Turn (fun _ => False) w wr → Calls Tryz.prog 23 #[pt d, .string (bs p), dv] wr fun e w' => e = .returned .nilIface ∧ ∃ lv' L', DI w0 d g D' L' lv' w' ∧ DStep d g wr lv w' lv')
    {n c : Nat} {da : Option Addr} (hdv : dv = .slice da n c) :
    Calls Tryz.prog 6 #[pt d, .agg #[.int .i64 1, .string (bs p), .string t, dv]] w fun e w' => (∃ k : Int, e = .returned (.tuple #[.int .i64 k, .int .i64 0])) ∧ ∃ lv' L', DI w0 d g D' L' lv' w' ∧ DStep d g w lv w' lv' := by
  subst hdv
  obtain ⟨N, hN⟩ : ∃ N, D.length = N := ⟨_, rfl⟩
  obtain ⟨la, ln, lc, rfl, -⟩ := h.lg.form
  obtain ⟨q, hq⟩ : ∃ q, w.heap.size = q := ⟨_, rfl⟩
  obtain ⟨W, hW⟩ : ∃ W, w.alloc (.cells #[.int .i64 1, .string (bs p), .string t, .slice da n c] 32) = W := ⟨_, rfl⟩
  have T1 : Turn (fun _ => False) w W := by rw [← hW]; exact (Turn.refl _ w).alloc _
  have b1 : W.heap[q]? = some (.cells #[.int .i64 1, .string (bs p), .string t, .slice da n c] 32 (0, 0)) := by rw [← hW, ← hq]; exact heap_alloc_new w _
  have hD := h.new T1
  have x0 : W.cell? ⟨q, 0, none⟩ = some (.int .i64 1) := cell_at b1 rfl
  have x1 : W.cell? ⟨q, 1, none⟩ = some (.string (bs p)) := cell_at b1 rfl
  have x3 : W.cell? ⟨q, 3, none⟩ = some (.slice da n c) := cell_at b1 rfl
  have hdb := hD.db
  rw [hN] at hdb
  obtain ⟨c0, c1, -, -, -⟩ := disk_cells hdb
  have hN0 : ((N : Int) == 0) = false := beq_eq_false_iff_ne.2 (by have := h.lo; omega)
  have HP := Lib.hid (hput W T1)
  have HT := Lib.hid T1
  clear h T1 b1 hD hdb hN hput
  go_enter Tryz.func6, Tryz.ntmps6
  go_wp2_with fail
  refine HP.out.mono ?_
  rintro e1 w1 ⟨rfl, lv1, L1, hD1, S1⟩
  obtain ⟨ma, mn, mc, rfl, -⟩ := hD1.lg.form
  have H1 := Lib.hid (And.intro (hD1.new (Turn.refl (fun _ => False) w1).drew) S1)
  clear hD1 S1 c0 c1 x0 x1 x3 hN0
  go_upto_region 15 with fail
  have hdb1 := H1.out.1.db
  obtain ⟨c0, c1, -, -, -⟩ := disk_cells hdb1
  clear hdb1
  refine wp_region_planH (aX := ?aXd) [8] [[], [8]] 1 [(0, 0, 0), (0, 1, 1), (1, 0, 0), (1, 1, 1), (2, 0, 0), (2, 1, 1), (3, 0, 0), (3, 1, 1), (4, 0, 0), (4, 1, 1), (5, 0, 0), (5, 1, 1), (6, 0, 0), (6, 1, 1), (7, 0, 0), (8, 0, 1), (9, 1, 1), (10, 1, 1)]
    [pt d, pt d, .pointer (some ⟨d, 1, none⟩), .slice ma mn mc, .int .i64 mn, .int .i64 ln, .int .i64 (IntKind.i64.wrap ((mn : Int) - (ln : Int))), .nilIface, undef, .int .i64 (IntKind.i64.wrap ((mn : Int) - (ln : Int))), .int .i64 0] (CdI w1.drew) (by kernel_rfl) (by kernel_rfl) rfl ?hXd (fun _ => undef) ?h0d ?hobd ?hendd
  case hXd => intro ξ; simp only [mixAll, Act.put]; go_simp; rfl
  case h0d =>
    exact ⟨fun _ => rfl, fun q => absurd q (by decide)⟩
  case hobd =>
    refine oblsH_cons rfl (stepH_value rfl rfl ?_) ?_
    · rintro ξ w5 h5
      rfl
    refine oblsH_cons rfl (stepH_value rfl rfl ?_) ?_
    · rintro ξ w5 h5
      rfl
    refine oblsH_cons rfl (stepH_value rfl rfl ?_) ?_
    · rintro ξ w5 h5
      rfl
    refine oblsH_cons rfl (stepH_value rfl rfl ?_) ?_
    · rintro ξ w5 h5
      rfl
    refine oblsH_cons rfl (stepH_value rfl rfl ?_) ?_
    · rintro ξ w5 h5
      rfl
    refine oblsH_cons rfl (stepH_value rfl rfl ?_) ?_
    · rintro ξ w5 h5
      rfl
    refine oblsH_cons rfl (stepH_value rfl rfl ?_) ?_
    · rintro ξ w5 h5
      obtain rfl := h5.1 rfl
      clear h5
      go_simp
      try rfl
    refine oblsH_cons rfl (stepH_value rfl rfl ?_) ?_
    · rintro ξ w5 h5
      obtain ⟨hT, h22⟩ := h5.2 rfl
      have hdb5 := (H1.out.1.new hT).db
      obtain ⟨e0, e1, -, -, -⟩ := disk_cells hdb5
      clear hdb5 hT
      clear h5
      go_simp
      try rfl
    refine oblsH_cons rfl (stepH_value rfl rfl ?_) ?_
    · rintro ξ w5 h5
      obtain rfl := h5.1 rfl
      clear h5
      go_simp
      try rfl
    refine oblsH_cons rfl (stepH_value rfl rfl ?_) ?_
    · rintro ξ w5 h5
      obtain ⟨hT, h22⟩ := h5.2 rfl
      have hdb5 := (H1.out.1.new hT).db
      obtain ⟨e0, e1, -, -, -⟩ := disk_cells hdb5
      clear hdb5 hT
      clear h5
      go_simp
      try rfl
    refine oblsH_cons rfl (stepH_value rfl rfl ?_) ?_
    · rintro ξ w5 h5
      rfl
    refine oblsH_cons rfl (stepH_value rfl rfl ?_) ?_
    · rintro ξ w5 h5
      rfl
    refine oblsH_cons rfl (stepH_value rfl rfl ?_) ?_
    · rintro ξ w5 h5
      obtain rfl := h5.1 rfl
      clear h5
      go_simp
      try rfl
    refine oblsH_cons rfl (stepH_value rfl rfl ?_) ?_
    · rintro ξ w5 h5
      obtain ⟨hT, h22⟩ := h5.2 rfl
      have hdb5 := (H1.out.1.new hT).db
      obtain ⟨e0, e1, -, -, -⟩ := disk_cells hdb5
      clear hdb5 hT
      clear h5
      go_simp
      try rfl
    refine oblsH_cons rfl (stepH_value rfl rfl ?_) ?_
    · rintro ξ w5 h5
      rfl
    refine oblsH_cons rfl (stepH_call rfl rfl ?_) ?_
    · rintro ξ w5 h5
      obtain rfl := h5.1 rfl
      refine ⟨27, #[.nilIface], by clear h5; go_simp, ?_⟩
      refine (code_nil _).mono ?_
      rintro e6 w6 ⟨rfl, hT⟩
      exact ⟨_, rfl, ⟨fun q => absurd q (by decide), fun _ => ⟨hT, rfl⟩⟩⟩
    refine oblsH_cons rfl (stepH_value rfl rfl ?_) ?_
    · rintro ξ w5 h5
      rfl
    refine oblsH_cons rfl (stepH_value rfl rfl ?_) ?_
    · rintro ξ w5 h5
      obtain ⟨hT, h22⟩ := h5.2 rfl
      clear h5 hT
      have h23 : ξ 8 = .int .i64 0 := h22
      clear h22
      go_simp
      try rfl
    exact oblsH_nil
  case hendd =>
    rintro ξ w5 h5
    obtain ⟨hT, -⟩ := h5.2 rfl
    have HZ := Lib.hid (And.intro (H1.out.1.new hT) (((DStep.new HT.out).trans H1.out.2).trans ((DStep.new (Turn.refl (fun _ => False) w1).drew).trans (DStep.new hT))))
    clear h5 hT c0 c1
    go_wp2_with fail
    go_ret2
    exact ⟨⟨_, rfl⟩, _, _, HZ.out⟩
end
end Go.Flr
