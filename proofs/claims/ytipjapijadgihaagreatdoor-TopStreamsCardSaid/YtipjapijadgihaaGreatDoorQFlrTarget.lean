/-
  target: what a path leads to. (Printed by lib/pl.py out of flr/gen/FlrTarget.src.)
-/
import Derived.Laws.ResultCell
import Derived.Test.YtipjapijadgihaaGreatDoorQFlrNames
set_option linter.unusedVariables false

namespace Go.Flr
open Go.Own Go.RowKit Go.Proofs

theorem findP_ok {D : List Bytes} {name : Bytes} : ∀ {ks : List Nat} {b a : Nat}, ChainD D b a ks → b < D.length → a ≤ 126 → (findP D name b a ks).1 < D.length ∧ (findP D name b a ks).2 ≤ 126
  | [], b, a, _, hb, ha => ⟨hb, ha⟩
  | k :: r, b, a, hc, hb, ha => by
    obtain ⟨_, _, h3, h4⟩ := hc
    unfold findP
    split
    · exact ⟨hb, ha⟩
    · exact findP_ok h4 h3 (by decide)

/-- s[:m], of strings -/
theorem run_strs_to (w : World) (a : Option Addr) (n m c : Nat) (hm : m ≤ c) (ha : ∀ x, a = some x → x.spot = none) : (Instr.sliceAt 22 (.slice a n c) none (some (.int .i64 m)) none).run Tryz.prog w = .ok (.slice a m c) w := by
  have hu := run_underlying Tryz.underlying22 w
  have hz := Tryz.sizeOf9 w
  have h1 : (m : Int) ≤ (c : Int) := by omega
  have hadd : ∀ x, a = some x → x.add 0 = x := fun x hx => by
    have := ha x hx
    obtain ⟨b, o, sp⟩ := x
    simp only at this
    subst this
    exact Addr.add_lit _ _ _
  cases a with
  | none => simp [Instr.sliceAt, Instr.slice, Instr.sliceBounds, Instr.sliceBound, asIntOf, hu]; intro h; omega
  | some x => simp [Instr.sliceAt, Instr.slice, Instr.sliceBounds, Instr.sliceBound, asIntOf, hu, hadd x rfl]; intro h; omega
theorem slice_spot {w : World} {e : TypeId} {sz : Nat} {a : Option Addr} {n c : Nat} {xs : List Value} (h : SliceAt w e sz (.slice a n c) xs) : ∀ x, a = some x → x.spot = none := fun x hx => by
  rcases h with ⟨e, -⟩ | ⟨_, _, _, _, _, e, -⟩
  · rw [Value.slice.injEq] at e; rw [e.1] at hx; cases hx
  · rw [Value.slice.injEq] at e; rw [e.1] at hx; cases hx; rfl
theorem strs_form {w : World} {v : Value} {xs : List Value} (h : SliceAt w 9 1 v xs) : ∃ a cap, v = .slice a xs.length cap ∧ xs.length ≤ cap ∧ cap ≤ maxLen := by
  obtain ⟨a, n, cap, rfl, hl, hn, hm, -⟩ := h.form
  rw [Nat.mul_one] at hl
  subst hl
  exact ⟨a, cap, rfl, hn, hm⟩

/-- A target as a value. -/
abbrev tgt (dir : Nat) (s : Bytes) (pb pa k : Nat) : Value := .agg #[.int .i64 (dir : Nat), .string (bs s), .int .i64 (pb : Nat), .int .i64 (pa : Nat), .int .i64 (k : Nat)]

theorem exec_store_tgt {a : Act} {o : Oper} {W : World} {q : Nat} {C cs : Array Value} (x y : Operand) (ho : o.op = .store 139 x y) (hx : a.eval x = pt q) (hy : a.eval y = .agg cs) (hcs : cs.size = 5) (hC : C.size = 5) (h1 : cs.all (·.oneCell') = true) (hb : W.heap[q]? = some (.cells C 139 (0, 0))) :
    (execOp a.eval o).run Tryz.prog W = .ok .skip (W.setRow q cs) := by
  have hs : (Tryz.prog.info? 139).map (·.size) = some 5 := by kernel_rfl
  have hr := run_storeAt_mid (P := Tryz.prog) W q 0 139 cs (fun j hj => ⟨by rw [Nat.zero_add, cell_at hb (Array.getElem?_eq_getElem (by omega))]; rfl, frozen_at hb⟩) (by rw [hs, hcs]) h1
  have e := setCells_eq_setRow (P := Tryz.prog) (o := 0) (vs := cs.toList) hb (by simp; omega) (fun v hv => (Array.all_eq_true_iff_forall_mem.1 h1) v (by simpa using hv))
  have e2 : (C.toList.take 0 ++ cs.toList ++ C.toList.drop (0 + cs.toList.length)).toArray = cs := by
    rw [List.drop_of_length_le (by simp; omega)]
    simp
  rw [e2] at e
  rw [e] at hr
  unfold execOp
  simp only [ho, hx, hy, Sem.run_bind, Sem.run_pure, Result.andThen_ok, hr]

theorem res_tgt {fn : Func} {p u : Tmp} (h : fn.results = #[.cell p 139, .tmp u]) (tmps : Array Value) {W : World} {q : Nat} {cs : Array Value} {v : Value} (hp : tmps.getD p undef = pt q) (hu : tmps.getD u undef = v) (hcs : cs.size = 5) (hb : W.heap[q]? = some (.cells cs 139 (0, 0))) :
    (results fn tmps).run Tryz.prog W = .ok (.tuple #[.agg cs, v]) W := by
  have hs : (Tryz.prog.info? 139).map (·.size) = some 5 := by kernel_rfl
  have hr := run_loadVar_row (P := Tryz.prog) W q 139 139 cs (0, 0) _ hb Tryz.underlying139 rfl (by rw [hs, hcs])
  rw [results_cell_tmp h, hp, hu]
  simp only [asAddr, Sem.run_pure, Result.andThen_ok, hr]

section
variable {w0 w w' w1 : World} {d g : Nat} {D : List Bytes} {L : List (Nat × Bytes)} {lv : Value}

/-- The stages of target's last region: 8 the lead, 10 the store. -/
def TgI (W : World) (q k : Nat) (cs : List Value) (s : Nat) (ξ : Nat → Value) (w : World) : Prop :=
  (s = 0 → w = W) ∧ (s = 1 → Turn (fun _ => False) W w ∧ ξ 8 = .int .i64 (k : Nat)) ∧ (s = 2 → ∃ wm, Turn (fun _ => False) W wm ∧ w = wm.setRow q cs.toArray)

set_option maxRecDepth 10000 in
set_option maxHeartbeats 4000000 in
theorem target_ok (h : DI w0 d g D L lv w) {p : Bytes} {pre : List Bytes} {s : Bytes} (hp : p ≠ []) (hl : p.length ≤ 1000) (hsp : splitL p = pre ++ [s]) (ha : ∀ x ∈ splitL p, isNameL x = true) {dir : Nat} (hdir : dir < D.length) {ks : List Nat} (hc : ChainD D dir (35 + 2 * chainN s) ks)
    (hway : ∀ wr v, DI w0 d g D L lv wr → SliceAt wr 9 1 v (scells pre) → Calls Tryz.prog 93 #[pt d, v] wr fun e w' => e = .returned (.tuple #[.int .i64 (dir : Nat), .nilIface]) ∧ Turn (fun _ => False) wr w')
    {pb pa : Nat} (hP : findP D s dir (35 + 2 * chainN s) ks = (pb, pa)) :
    Calls Tryz.prog 55 #[pt d, .string (bs p)] w fun e w' => e = .returned (.tuple #[tgt dir s pb pa (numAt (atD D pb) pa), .nilIface]) ∧ Turn (fun _ => False) w w' := by
  have hsn : isNameL s = true := ha s (by rw [hsp]; simp)
  have hcl := chainN_lt s
  have hPok := findP_ok (name := s) hc hdir (by omega)
  rw [hP] at hPok
  obtain ⟨n, hn⟩ : ∃ n, pre.length = n := ⟨_, rfl⟩
  have hlen : (splitL p).length = n + 1 := by rw [hsp, List.length_append, hn]; rfl
  have hn2 : n ≤ 1001 := by have := Lib.countB_le (bs [47]) (by decide) (bs p).size (bs p) (Nat.le_refl _); have e := splitL_length p; have := bs_size p; omega
  obtain ⟨k, hk⟩ : ∃ k, numAt (atD D pb) pa = k := ⟨_, rfl⟩
  rw [hk]
  obtain ⟨q, hq⟩ : ∃ q, w.heap.size = q := ⟨_, rfl⟩
  obtain ⟨W1, hW1⟩ : ∃ W1, w.alloc (.cells #[.int .i64 0, .string ⟨#[]⟩, .int .i64 0, .int .i64 0, .int .i64 0] 139) = W1 := ⟨_, rfl⟩
  have T1 : Turn (fun _ => False) w W1 := by rw [← hW1]; exact (Turn.refl _ w).alloc _
  have hD1 := h.new T1
  have ht1 : W1.heap[q]? = some (.cells #[.int .i64 0, .string ⟨#[]⟩, .int .i64 0, .int .i64 0, .int .i64 0] 139 (0, 0)) := by rw [← hW1, ← hq]; exact heap_alloc_new w _
  have HNm := Lib.hid (names_ok (w := W1) p hp hl hD1.env ha)
  have H := Lib.hid (And.intro hD1 (And.intro T1 (And.intro ht1 (And.intro hdir (And.intro hc (And.intro hP (And.intro hPok (And.intro hk (And.intro hlen (And.intro hsp (And.intro hn (And.intro hsn hq))))))))))))
  have HW := Lib.hid hway
  clear h T1 hD1 ht1 hdir hc hP hPok hk hlen hsp hn hsn hp hl ha hway hcl
  go_enter Tryz.func55, Tryz.ntmps55
  go_upto_region 1 with fail
  clear hW1 hq
  go_wp2_with fail
  refine HNm.out.mono ?_
  rintro e2 w2 ⟨v, rfl, hv, T2⟩
  obtain ⟨va, vc, rfl, hv1, -⟩ := strs_form hv
  have hsl : (scells (splitL p)).length = n + 1 := by rw [scells_length, H.out.2.2.2.2.2.2.2.2.1]
  obtain ⟨N, hN⟩ : ∃ N, n + 1 = N := ⟨_, rfl⟩
  rw [hsl, hN] at hv hv1 ⊢
  have hrs := fun W => run_strs_to W va N n vc (by omega) (slice_spot hv)
  have hpv : SliceAt w2 9 1 (.slice va n vc) (scells pre) := by
    have := hv.take n (by omega)
    rw [Nat.mul_one, H.out.2.2.2.2.2.2.2.2.2.1] at this
    have e : (scells (pre ++ [s])).take n = scells pre := by
      unfold scells; rw [List.map_append, ← H.out.2.2.2.2.2.2.2.2.2.2.1, List.take_left' (by simp)]
    rw [e] at this
    exact this
  have hD2 := H.out.1.new T2
  have HWy := Lib.hid (HW.out w2 _ hD2 hpv)
  have hN0 : ((N : Int) == 0) = false := beq_eq_false_iff_ne.2 (by omega)
  have hN1 : IntKind.i64.wrap ((N : Int) - 1) = (n : Int) := by rw [IntWalk.i64_in _ (by omega)]; omega
  have hN2 : wrap64 ((N : Int) - 1) = (n : Int) := by rw [IntWalk.wrap64_in _ (by omega)]; omega
  have hN3 : (N : Int) - 1 = (n : Int) := by omega
  have H2 := Lib.hid (And.intro hv (And.intro T2 (And.intro hD2 (And.intro hN hv1))))
  clear hv T2 hpv hD2 hsl hv1 hN
  go_wp2_with fail
  refine HWy.out.mono ?_
  rintro e3 w3 ⟨rfl, T3⟩
  have hD3 := H2.out.2.2.1.new T3
  have hcell : w3.cell? ⟨0, 0, none⟩ = w3.cell? ⟨0, 0, none⟩ := rfl
  obtain ⟨ub, uo, rfl⟩ := H2.out.1.addr (by have := H2.out.2.2.2.1; omega)
  have hl0 : w3.cell? ⟨ub, uo + n, none⟩ = some (.string (bs s)) := (H2.out.1.turn T3 (fun _ _ e => e)).cells n _ (by
    rw [H.out.2.2.2.2.2.2.2.2.2.1]
    unfold scells
    rw [List.map_append, List.getElem?_append_right (by rw [List.length_map, H.out.2.2.2.2.2.2.2.2.2.2.1]; exact Nat.le_refl _), List.length_map, H.out.2.2.2.2.2.2.2.2.2.2.1, Nat.sub_self]
    rfl)
  have hF : Calls Tryz.prog 94 #[pt d, .int .i64 dir, .string (bs s)] w3 fun e w' => e = .returned (plc pb pa) ∧ Turn (fun _ => False) w3 w' := by
    have := find_calls hD3 H.out.2.2.2.1 (name := s) (by have := isNameL_len H.out.2.2.2.2.2.2.2.2.2.2.2.1; omega) H.out.2.2.2.2.1
    rw [H.out.2.2.2.2.2.1] at this
    exact this
  have HF := Lib.hid hF
  have hnN : n < N := by have := H2.out.2.2.2.1; omega
  have H3 := Lib.hid (And.intro T3 hD3)
  clear T3 hD3 hcell hrs hF
  go_upto_region 10 with fail
  go_wp2_with fail
  refine HF.out.mono ?_
  rintro e4 w4 ⟨rfl, T4⟩
  go_upto_region 11 with fail
  obtain ⟨r, hr⟩ : ∃ r, w4.heap.size = r := ⟨_, rfl⟩
  obtain ⟨W, hW⟩ : ∃ W, w4.alloc (.cells #[.int .i64 (pb : Nat), .int .i64 (pa : Nat)] 137) = W := ⟨_, rfl⟩
  have T5 : Turn (fun _ => False) w4 W := by rw [← hW]; exact (Turn.refl _ w4).alloc _
  have hpl : W.heap[r]? = some (.cells #[.int .i64 (pb : Nat), .int .i64 (pa : Nat)] 137 (0, 0)) := by rw [← hW, ← hr]; exact heap_alloc_new w4 _
  rw [hW]
  try rw [hr]
  have T25 := (H3.out.1.trans T4).trans T5
  have T1 := H2.out.2.1.trans T25
  have hD5 := H.out.1.new T1
  have ht5 := (T1.block q (heap_lt H.out.2.2.1) (fun e => e)).trans H.out.2.2.1
  have hv5 := H2.out.1.turn T25 (fun _ _ e => e)
  have hPok := H.out.2.2.2.2.2.2.1
  have hlt := heap_lt H.out.2.2.1
  have hw5 : W.drew.cell? ⟨ub, uo + n, none⟩ = some (.string (bs s)) := hv5.cells n _ (by
    rw [H.out.2.2.2.2.2.2.2.2.2.1]
    unfold scells
    rw [List.map_append, List.getElem?_append_right (by rw [List.length_map, H.out.2.2.2.2.2.2.2.2.2.2.1]; exact Nat.le_refl _), List.length_map, H.out.2.2.2.2.2.2.2.2.2.2.1, Nat.sub_self]
    rfl)
  have hblt := World.block_lt_of_cell? _ _ hw5
  have H5 := Lib.hid (And.intro hD5 (And.intro ht5 (And.intro hpl (And.intro T1 (And.intro hPok (And.intro hw5 hblt))))))
  clear hW hr T5 hpl T25 T1 hD5 ht5 hv5 hPok hlt hw5 hblt hl0 T4
  refine wp_region_planH (aX := ?aXt) [8, 10] [[], [8], [8, 10]] 2 [(0, 0, 0), (0, 1, 1), (1, 0, 0), (1, 1, 1), (2, 0, 0), (2, 1, 1), (3, 0, 0), (3, 1, 1), (4, 0, 0), (4, 1, 1), (5, 0, 0), (5, 1, 1), (6, 0, 0), (7, 0, 0), (8, 0, 1), (9, 1, 1), (10, 1, 2), (11, 2, 2)]
    [.int .i64 dir, .slice (some ⟨ub, uo, none⟩) N vc, .int .i64 n, .pointer (some ⟨ub, uo + n, none⟩), .string (bs s), plc pb pa, pt d, plc pb pa, undef, tgt dir s pb pa k, undef, .nilIface] (TgI W.drew q k [.int .i64 (dir : Nat), .string (bs s), .int .i64 (pb : Nat), .int .i64 (pa : Nat), .int .i64 (k : Nat)]) (by kernel_rfl) (by kernel_rfl) rfl ?hXt (fun _ => undef) ?h0t ?hobt ?hendt
  case hXt => intro ξ; simp only [mixAll, Act.put]; go_simp; rfl
  case h0t =>
    exact ⟨fun _ => rfl, fun q => absurd q (by decide), fun q => absurd q (by decide)⟩
  case hobt =>
    refine oblsH_cons rfl (stepH_value rfl rfl ?_) ?_
    · rintro ξ w5 h5
      rfl
    refine oblsH_cons rfl (stepH_value rfl rfl ?_) ?_
    · rintro ξ w5 h5
      rfl
    refine oblsH_cons rfl (stepH_value rfl rfl ?_) ?_
    · rintro ξ w5 h5
      rfl
    refine oblsH_cons rfl (stepH_value rfl rfl ?_) ?_
    · rintro ξ w5 h5
      rfl
    refine oblsH_cons rfl (stepH_value rfl rfl ?_) ?_
    · rintro ξ w5 h5
      rfl
    refine oblsH_cons rfl (stepH_value rfl rfl ?_) ?_
    · rintro ξ w5 h5
      rfl
    refine oblsH_cons rfl (stepH_value rfl rfl ?_) ?_
    · rintro ξ w5 h5
      obtain rfl := h5.1 rfl
      have y0 : W.drew.cell? ⟨r, 0, none⟩ = some (.int .i64 (pb : Nat)) := cell_at H5.out.2.2.1 rfl
      have y1 : W.drew.cell? ⟨r, 1, none⟩ = some (.int .i64 (pa : Nat)) := cell_at H5.out.2.2.1 rfl
      have y2 := H5.out.2.2.2.2.2.1
      clear h5
      go_simp
      try rfl
    refine oblsH_cons rfl (stepH_value rfl rfl ?_) ?_
    · rintro ξ w5 h5
      obtain ⟨hT, h22⟩ := h5.2.1 rfl
      have hb5 := (hT.block r (heap_lt (w := W.drew) H5.out.2.2.1) (fun e => e)).trans H5.out.2.2.1
      have y0 : w5.cell? ⟨r, 0, none⟩ = some (.int .i64 (pb : Nat)) := cell_at hb5 rfl
      have y1 : w5.cell? ⟨r, 1, none⟩ = some (.int .i64 (pa : Nat)) := cell_at hb5 rfl
      have y2 : w5.cell? ⟨ub, uo + n, none⟩ = some (.string (bs s)) := (hT.cell (p := ⟨ub, uo + n, none⟩) (fun e => e) H5.out.2.2.2.2.2.2).trans H5.out.2.2.2.2.2.1
      clear hb5 hT
      clear h5
      go_simp
      try rfl
    refine oblsH_cons rfl (stepH_value rfl rfl ?_) ?_
    · rintro ξ w5 h5
      obtain rfl := h5.1 rfl
      have y0 : W.drew.cell? ⟨r, 0, none⟩ = some (.int .i64 (pb : Nat)) := cell_at H5.out.2.2.1 rfl
      have y1 : W.drew.cell? ⟨r, 1, none⟩ = some (.int .i64 (pa : Nat)) := cell_at H5.out.2.2.1 rfl
      have y2 := H5.out.2.2.2.2.2.1
      clear h5
      go_simp
      try rfl
    refine oblsH_cons rfl (stepH_value rfl rfl ?_) ?_
    · rintro ξ w5 h5
      obtain ⟨hT, h22⟩ := h5.2.1 rfl
      have hb5 := (hT.block r (heap_lt (w := W.drew) H5.out.2.2.1) (fun e => e)).trans H5.out.2.2.1
      have y0 : w5.cell? ⟨r, 0, none⟩ = some (.int .i64 (pb : Nat)) := cell_at hb5 rfl
      have y1 : w5.cell? ⟨r, 1, none⟩ = some (.int .i64 (pa : Nat)) := cell_at hb5 rfl
      have y2 : w5.cell? ⟨ub, uo + n, none⟩ = some (.string (bs s)) := (hT.cell (p := ⟨ub, uo + n, none⟩) (fun e => e) H5.out.2.2.2.2.2.2).trans H5.out.2.2.2.2.2.1
      clear hb5 hT
      clear h5
      go_simp
      try rfl
    refine oblsH_cons rfl (stepH_value rfl rfl ?_) ?_
    · rintro ξ w5 h5
      obtain rfl := h5.1 rfl
      have y0 : W.drew.cell? ⟨r, 0, none⟩ = some (.int .i64 (pb : Nat)) := cell_at H5.out.2.2.1 rfl
      have y1 : W.drew.cell? ⟨r, 1, none⟩ = some (.int .i64 (pa : Nat)) := cell_at H5.out.2.2.1 rfl
      have y2 := H5.out.2.2.2.2.2.1
      clear h5
      go_simp
      try rfl
    refine oblsH_cons rfl (stepH_value rfl rfl ?_) ?_
    · rintro ξ w5 h5
      obtain ⟨hT, h22⟩ := h5.2.1 rfl
      have hb5 := (hT.block r (heap_lt (w := W.drew) H5.out.2.2.1) (fun e => e)).trans H5.out.2.2.1
      have y0 : w5.cell? ⟨r, 0, none⟩ = some (.int .i64 (pb : Nat)) := cell_at hb5 rfl
      have y1 : w5.cell? ⟨r, 1, none⟩ = some (.int .i64 (pa : Nat)) := cell_at hb5 rfl
      have y2 : w5.cell? ⟨ub, uo + n, none⟩ = some (.string (bs s)) := (hT.cell (p := ⟨ub, uo + n, none⟩) (fun e => e) H5.out.2.2.2.2.2.2).trans H5.out.2.2.2.2.2.1
      clear hb5 hT
      clear h5
      go_simp
      try rfl
    refine oblsH_cons rfl (stepH_value rfl rfl ?_) ?_
    · rintro ξ w5 h5
      rfl
    refine oblsH_cons rfl (stepH_value rfl rfl ?_) ?_
    · rintro ξ w5 h5
      obtain rfl := h5.1 rfl
      have y0 : W.drew.cell? ⟨r, 0, none⟩ = some (.int .i64 (pb : Nat)) := cell_at H5.out.2.2.1 rfl
      have y1 : W.drew.cell? ⟨r, 1, none⟩ = some (.int .i64 (pa : Nat)) := cell_at H5.out.2.2.1 rfl
      have y2 := H5.out.2.2.2.2.2.1
      clear h5
      go_simp
      try rfl
    refine oblsH_cons rfl (stepH_call rfl rfl ?_) ?_
    · rintro ξ w5 h5
      obtain rfl := h5.1 rfl
      refine ⟨95, #[pt d, plc pb pa], by clear h5; go_simp, ?_⟩
      refine (lead_calls (H5.out.1.new ((Turn.refl (fun _ => False) W).drew)) H5.out.2.2.2.2.1.1 H5.out.2.2.2.2.1.2).mono ?_
      rintro e6 w6 ⟨rfl, hT⟩
      exact ⟨_, rfl, ⟨fun q => absurd q (by decide), fun _ => ⟨hT, by show Value.int _ _ = _; rw [H.out.2.2.2.2.2.2.2.1]⟩, fun q => absurd q (by decide)⟩⟩
    refine oblsH_cons rfl (stepH_value rfl rfl ?_) ?_
    · rintro ξ w5 h5
      obtain ⟨hT, h22⟩ := h5.2.1 rfl
      clear hT h5
      have h23 : ξ 8 = .int .i64 (k : Nat) := h22
      clear h22
      go_simp
      try rfl
    refine oblsH_cons rfl (stepH_store rfl rfl rfl ?_) ?_
    · rintro ξ w5 h5
      obtain ⟨hT, h22⟩ := h5.2.1 rfl
      refine ⟨w5.setRow q #[.int .i64 (dir : Nat), .string (bs s), .int .i64 (pb : Nat), .int .i64 (pa : Nat), .int .i64 (k : Nat)], ?_, ⟨fun q => absurd q (by decide), fun q => absurd q (by decide), fun _ => ⟨w5, hT, rfl⟩⟩⟩
      have hb5 := (hT.block q (heap_lt (w := W.drew) H5.out.2.1) (fun e => e)).trans H5.out.2.1
      exact exec_store_tgt (.tmp 4) (.tmp 56) rfl rfl rfl rfl rfl (by simp; exact ⟨rfl, rfl, rfl, rfl, rfl⟩) hb5
    refine oblsH_cons rfl (stepH_value rfl rfl ?_) ?_
    · rintro ξ w5 h5
      clear h5
      rfl
    exact oblsH_nil
  case hendt =>
    rintro ξ wB h5
    obtain ⟨wm, hT, rfl⟩ := h5.2.2 rfl
    have hbm := (hT.block q (heap_lt (w := W.drew) H5.out.2.1) (fun e => e)).trans H5.out.2.1
    have hb6 := setRow_heap wm q _ (([.int .i64 (dir : Nat), .string (bs s), .int .i64 (pb : Nat), .int .i64 (pa : Nat), .int .i64 (k : Nat)] : List Value).toArray) _ _ hbm
    have hq := H.out.2.2.2.2.2.2.2.2.2.2.2.2
    have hTf : Turn (fun _ => False) w (wm.setRow q (([.int .i64 (dir : Nat), .string (bs s), .int .i64 (pb : Nat), .int .i64 (pa : Nat), .int .i64 (k : Nat)] : List Value).toArray)) :=
      ((H.out.2.1.trans H5.out.2.2.2.1).trans (Turn.drew_left hT)).setRow (fun (hlt : q < w.heap.size) => by omega) _
    have HZ := Lib.hid (And.intro hb6 hTf)
    clear h5 hT hbm hb6 hTf hq
    go_wp2_with fail
    refine bodyPost_ret (v := .tuple #[tgt dir s pb pa k, .nilIface]) ?_ rfl ⟨rfl, HZ.out.2⟩
    exact res_tgt rfl _ rfl rfl rfl HZ.out.1
end
end Go.Flr
