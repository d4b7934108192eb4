/-
  there, reach: what a path leads to.
-/
import Derived.Test.YtipjapijadgihaaGreatDoorQFlrFormat
set_option linter.unusedVariables false

namespace Go.Flr
open Go.Own Go.RowKit Go.Proofs

section
variable {w0 w w' w1 : World} {d g : Nat} {D : List Bytes} {L : List (Nat × Bytes)} {lv : Value}

theorem wpList_store_tgt {ops : Array Oper} {rest : List Oper} {o : Oper} {a : Act} {Q : Exit → Act → World → Prop} (hgd : o.guard = none) (x y : Operand) (ho : o.op = .store 139 x y) {q : Nat} {C cs : Array Value} (hx : a.eval x = pt q) (hy : a.eval y = .agg cs) (hcs : cs.size = 5) (hC : C.size = 5) (h1 : cs.all (·.oneCell') = true) (hb : w.heap[q]? = some (.cells C 139 (0, 0)))
    (h : wpList Tryz.prog ops Q rest (a.put o.dst undef) (w.setRow q cs)) : wpList Tryz.prog ops Q (o :: rest) a w := by
  refine wpList_plain hgd fun K hK => ?_
  unfold Oper.wp
  rw [exec_store_tgt x y ho hx hy hcs hC h1 hb]
  exact hK _ _ h

set_option maxRecDepth 10000 in
set_option maxHeartbeats 4000000 in
theorem there_ok (h : DI w0 d g D L lv w) {p s : Bytes} {pre : List Bytes} {dir pb pa k : Nat} {ks : List Nat} (hw : Way D p s pre dir pb pa ks)
    (hway : ∀ wr v, DI w0 d g D L lv wr → SliceAt wr 9 1 v (scells pre) → Calls Tryz.prog 93 #[pt d, v] wr fun e w' => e = .returned (.tuple #[.int .i64 (dir : Nat), .nilIface]) ∧ Turn (fun _ => False) wr w')
    (hk : numAt (atD D pb) pa = k) (hk0 : k ≠ 0) :
    Calls Tryz.prog 65 #[pt d, .string (bs p)] w fun e w' => e = .returned (.tuple #[tgt dir s pb pa k, .nilIface]) ∧ Turn (fun _ => False) w w' := by
  obtain ⟨q, hq⟩ : ∃ q, w.heap.size = q := ⟨_, rfl⟩
  obtain ⟨W1, hW1⟩ : ∃ W1, w.alloc (.cells #[.int .i64 0, .string ⟨#[]⟩, .int .i64 0, .int .i64 0, .int .i64 0] 139) = W1 := ⟨_, rfl⟩
  have T1 : Turn (fun _ => False) w W1 := by rw [← hW1]; exact (Turn.refl _ w).alloc _
  have b1 : W1.heap[q]? = some (.cells #[.int .i64 0, .string ⟨#[]⟩, .int .i64 0, .int .i64 0, .int .i64 0] 139 (0, 0)) := by rw [← hW1, ← hq]; exact heap_alloc_new w _
  have hT := target_ok (h.new T1) hw.ne hw.len hw.split hw.names hw.dlt hw.chain hway hw.find
  rw [hk] at hT
  have HT := Lib.hid hT
  have H := Lib.hid (And.intro T1 (And.intro b1 hq))
  have q0 : ((k : Int) == 0) = false := beq_eq_false_iff_ne.2 (by omega)
  clear h hw hway hk hk0 hT T1 b1
  go_enter Tryz.func65, Tryz.ntmps65
  go_upto_region 1 with fail
  clear hW1 hq
  go_wp2_with fail
  refine HT.out.mono ?_
  rintro e2 w2 ⟨rfl, T2⟩
  go_upto_region 2 with fail
  obtain ⟨r, hr⟩ : ∃ r, w2.heap.size = r := ⟨_, rfl⟩
  obtain ⟨W3, hW3⟩ : ∃ W3, w2.alloc (.cells #[.int .i64 (dir : Nat), .string (bs s), .int .i64 (pb : Nat), .int .i64 (pa : Nat), .int .i64 (k : Nat)] 139) = W3 := ⟨_, rfl⟩
  have T3 : Turn (fun _ => False) w2 W3 := by rw [← hW3]; exact (Turn.refl _ w2).alloc _
  have b3 : W3.heap[r]? = some (.cells #[.int .i64 (dir : Nat), .string (bs s), .int .i64 (pb : Nat), .int .i64 (pa : Nat), .int .i64 (k : Nat)] 139 (0, 0)) := by rw [← hW3, ← hr]; exact heap_alloc_new w2 _
  have b4 := ((T2.trans T3).block q (heap_lt H.out.2.1) (fun e => e)).trans H.out.2.1
  have y0 : W3.cell? ⟨r, 0, none⟩ = some (.int .i64 (dir : Nat)) := cell_at b3 rfl
  have y1 : W3.cell? ⟨r, 1, none⟩ = some (.string (bs s)) := cell_at b3 rfl
  have y2 : W3.cell? ⟨r, 2, none⟩ = some (.int .i64 (pb : Nat)) := cell_at b3 rfl
  have y3 : W3.cell? ⟨r, 3, none⟩ = some (.int .i64 (pa : Nat)) := cell_at b3 rfl
  have y4 : W3.cell? ⟨r, 4, none⟩ = some (.int .i64 (k : Nat)) := cell_at b3 rfl
  have y5 : W3.cell? ⟨r, 3 + 1, none⟩ = some (.int .i64 (k : Nat)) := cell_at b3 rfl
  rw [hW3, hr]
  have H3 := Lib.hid (And.intro ((H.out.1.trans T2).trans T3) b4)
  clear T2 T3 b3 b4 hW3 hr
  go_upto_region 4 with fail
  have hcs : (#[.int .i64 (dir : Nat), .string (bs s), .int .i64 (pb : Nat), .int .i64 (pa : Nat), .int .i64 (k : Nat)] : Array Value).all (·.oneCell') = true := by simp; exact ⟨rfl, rfl, rfl, rfl, rfl⟩
  have HCS := Lib.hid hcs
  clear hcs
  go_wp2_with (refine wpList_store_tgt rfl _ _ rfl rfl rfl rfl rfl HCS.out H3.out.2 ?_)
  have hb6 := setRow_heap W3 q _ (#[.int .i64 (dir : Nat), .string (bs s), .int .i64 (pb : Nat), .int .i64 (pa : Nat), .int .i64 (k : Nat)]) _ _ H3.out.2
  have hq := H.out.2.2
  exact bodyPost_ret (v := .tuple #[tgt dir s pb pa k, .nilIface]) (res_tgt rfl _ rfl rfl rfl hb6) rfl ⟨rfl, H3.out.1.setRow (fun (hlt : q < w.heap.size) => by omega) _⟩

/-- The stages of reach's last region: 3 the code. -/
def RcI (W : World) (s : Nat) (ξ : Nat → Value) (w : World) : Prop := (s = 0 → w = W) ∧ (s = 1 → Turn (fun _ => False) W w ∧ ξ 3 = .int .i64 0)
end
end Go.Flr

/-
  reach: the block of a path. (Printed by lib/pl.py out of flr/gen/FlrReach.src.)
-/
namespace Go.Flr
open Go.Own Go.RowKit Go.Proofs

section
variable {w0 w w' w1 : World} {d g : Nat} {D : List Bytes} {L : List (Nat × Bytes)} {lv : Value}

set_option maxRecDepth 10000 in
set_option maxHeartbeats 4000000 in
theorem reach_ok (h : DI w0 d g D L lv w) {p s : Bytes} {pre : List Bytes} {dir pb pa k : Nat} {ks : List Nat} (hw : Way D p s pre dir pb pa ks)
    (hway : ∀ wr v, DI w0 d g D L lv wr → SliceAt wr 9 1 v (scells pre) → Calls Tryz.prog 93 #[pt d, v] wr fun e w' => e = .returned (.tuple #[.int .i64 (dir : Nat), .nilIface]) ∧ Turn (fun _ => False) wr w')
    (hk : numAt (atD D pb) pa = k) (hk0 : k ≠ 0) :
    Calls Tryz.prog 28 #[pt d, .string (bs p)] w fun e w' => e = .returned (.tuple #[.int .i64 (k : Nat), .int .i64 0]) ∧ Turn (fun _ => False) w w' := by
  obtain ⟨N, hN⟩ : ∃ N, D.length = N := ⟨_, rfl⟩
  have hN0 : ((N : Int) == 0) = false := beq_eq_false_iff_ne.2 (by have := h.lo; omega)
  have hdb := h.db
  rw [hN] at hdb
  obtain ⟨c0, -, -, -, -⟩ := disk_cells hdb
  have t1 := bs_toList p
  have t2 : p.isEmpty = false := by have := hw.ne; cases p with | nil => exact absurd rfl this | cons _ _ => rfl
  have HT := Lib.hid (there_ok h hw hway hk hk0)
  clear h hw hway hk hk0 hN hdb
  go_enter Tryz.func28, Tryz.ntmps28
  go_wp2_with fail
  refine HT.out.mono ?_
  rintro e2 w2 ⟨rfl, T2⟩
  clear c0 t1 t2
  go_upto_region 6 with fail
  obtain ⟨r, hr⟩ : ∃ r, w2.heap.size = r := ⟨_, rfl⟩
  obtain ⟨W3, hW3⟩ : ∃ W3, w2.alloc (.cells #[.int .i64 (dir : Nat), .string (bs s), .int .i64 (pb : Nat), .int .i64 (pa : Nat), .int .i64 (k : Nat)] 139) = W3 := ⟨_, rfl⟩
  have T3 : Turn (fun _ => False) w2 W3 := by rw [← hW3]; exact (Turn.refl _ w2).alloc _
  have b3 : W3.heap[r]? = some (.cells #[.int .i64 (dir : Nat), .string (bs s), .int .i64 (pb : Nat), .int .i64 (pa : Nat), .int .i64 (k : Nat)] 139 (0, 0)) := by rw [← hW3, ← hr]; exact heap_alloc_new w2 _
  rw [hW3, hr]
  have H3 := Lib.hid (And.intro (T2.trans T3) b3)
  clear T2 T3 b3 hW3 hr
  refine wp_region_planH (aX := ?aXr) [3] [[], [3]] 1 [(0, 0, 0), (0, 1, 1), (1, 0, 0), (1, 1, 1), (2, 0, 0), (3, 0, 1), (4, 1, 1), (5, 1, 1)]
    [.pointer (some ⟨r, 3 + 1, none⟩), .int .i64 k, .nilIface, undef, .int .i64 k, .int .i64 0] (RcI W3.drew) (by kernel_rfl) (by kernel_rfl) rfl ?hXr (fun _ => undef) ?h0r ?hobr ?hendr
  case hXr => intro ξ; simp only [mixAll, Act.put]; go_simp; rfl
  case h0r =>
    exact ⟨fun _ => rfl, fun q => absurd q (by decide)⟩
  case hobr =>
    refine oblsH_cons rfl (stepH_value rfl rfl ?_) ?_
    · rintro ξ w5 h5
      rfl
    refine oblsH_cons rfl (stepH_value rfl rfl ?_) ?_
    · rintro ξ w5 h5
      rfl
    refine oblsH_cons rfl (stepH_value rfl rfl ?_) ?_
    · rintro ξ w5 h5
      obtain rfl := h5.1 rfl
      have y0 : W3.drew.cell? ⟨r, 3 + 1, none⟩ = some (.int .i64 (k : Nat)) := cell_at H3.out.2 rfl
      clear h5
      go_simp
      try rfl
    refine oblsH_cons rfl (stepH_value rfl rfl ?_) ?_
    · rintro ξ w5 h5
      obtain ⟨hT, h22⟩ := h5.2 rfl
      have y0 : w5.cell? ⟨r, 3 + 1, none⟩ = some (.int .i64 (k : Nat)) := cell_at ((hT.block r (heap_lt (w := W3.drew) H3.out.2) (fun e => e)).trans H3.out.2) rfl
      clear hT
      clear h5
      go_simp
      try rfl
    refine oblsH_cons rfl (stepH_value rfl rfl ?_) ?_
    · rintro ξ w5 h5
      rfl
    refine oblsH_cons rfl (stepH_call rfl rfl ?_) ?_
    · rintro ξ w5 h5
      obtain rfl := h5.1 rfl
      refine ⟨27, #[.nilIface], by clear h5; go_simp, ?_⟩
      refine (code_nil _).mono ?_
      rintro e6 w6 ⟨rfl, hT⟩
      exact ⟨_, rfl, ⟨fun q => absurd q (by decide), fun _ => ⟨hT, rfl⟩⟩⟩
    refine oblsH_cons rfl (stepH_value rfl rfl ?_) ?_
    · rintro ξ w5 h5
      rfl
    refine oblsH_cons rfl (stepH_value rfl rfl ?_) ?_
    · rintro ξ w5 h5
      obtain ⟨hT, h22⟩ := h5.2 rfl
      clear h5 hT
      have h23 : ξ 3 = .int .i64 0 := h22
      clear h22
      go_simp
      try rfl
    exact oblsH_nil
  case hendr =>
    rintro ξ w5 h5
    obtain ⟨hT, -⟩ := h5.2 rfl
    have HZ := Lib.hid (H3.out.1.trans (Turn.drew_left hT))
    clear h5 hT
    go_wp2_with fail
    go_ret2
    exact ⟨rfl, HZ.out⟩
end
end Go.Flr
