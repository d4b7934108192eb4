/-
  write: a block goes to the disk and into the log. (Printed by lib/pl.py out of flr/gen/FlrWrite.src.)
-/
import Derived.Test.YtipjapijadgihaaGreatDoorQFlrBuild
set_option linter.unusedVariables false

namespace Go.Flr
open Go.Own Go.RowKit Go.Proofs

theorem run_load_block (W : World) {b o : Nat} {B : Bytes} (hB : B.length = 128) (h : W.rangeAt b o (bcells B)) : (Instr.loadAt 63 (.pointer (some ⟨b, o, none⟩))).run Tryz.prog W = .ok (agg B) W :=
  run_loadAt_mid W b o 63 (bcells B) _ h Tryz.underlying63 rfl (by rw [sizeBlock, bcells_length, hB])
theorem run_store_block (W : World) {b o : Nat} {B : Bytes} (hB : B.length = 128) (h : W.there b o 128) : (Instr.storeAt 63 (.pointer (some ⟨b, o, none⟩)) (agg B)).run Tryz.prog W = .ok () (W.setCells b o (bcells B)) :=
  run_storeAt_mid W b o 63 _ (by simpa [hB] using h) (by rw [sizeBlock]; simp [hB]) (all_oneCell_toArray (bcells_one B))

theorem exec_load_block {a : Act} {o : Oper} {W : World} {b off : Nat} {B : Bytes} (x : Operand) (ho : o.op = .load 63 x) (hx : a.eval x = .pointer (some ⟨b, off, none⟩)) (hB : B.length = 128) (h : W.rangeAt b off (bcells B)) :
    (execOp a.eval o).run Tryz.prog W = .ok (.value (agg B)) W := by
  unfold execOp
  simp only [ho, hx, Sem.run_bind, Sem.run_pure, Result.andThen_ok, run_load_block W hB h]
theorem exec_store_block {a : Act} {o : Oper} {W : World} {b off : Nat} {B : Bytes} (x y : Operand) (ho : o.op = .store 63 x y) (hx : a.eval x = .pointer (some ⟨b, off, none⟩)) (hy : a.eval y = agg B) (hB : B.length = 128) (h : W.there b off 128) :
    (execOp a.eval o).run Tryz.prog W = .ok .skip (W.setCells b off (bcells B)) := by
  unfold execOp
  simp only [ho, hx, hy, Sem.run_bind, Sem.run_pure, Result.andThen_ok, run_store_block W hB h]

theorem exec_build_write {a : Act} {o : Oper} {W : World} {k : Nat} {B : Bytes} (x y : Operand) (ho : o.op = .build 184 #[(0, x), (1, y)]) (hx : a.eval x = .int .i64 (k : Nat)) (hy : a.eval y = agg B) (hB : B.length = 128) :
    (execOp a.eval o).run Tryz.prog W = .ok (.value (.agg (lcells [(k, B)]).toArray)) W := by
  unfold execOp
  simp only [ho, List.map_toArray, List.map_cons, List.map_nil, hx, hy, Sem.run_bind, Sem.run_pure, Result.andThen_ok, build_write W k hB]
theorem exec_buildSlice_write {a : Act} {o : Oper} {W : World} {k : Nat} {B : Bytes} (x : Operand) (ho : o.op = .buildSlice 58 1 #[(0, x)]) (hx : a.eval x = .agg (lcells [(k, B)]).toArray) (hB : B.length = 128) :
    (execOp a.eval o).run Tryz.prog W = .ok (.value (.slice (some ⟨W.heap.size, 0, none⟩) 1 1)) (W.alloc (.cells (lcells [(k, B)]).toArray 184)) := by
  unfold execOp
  simp only [ho, List.map_toArray, List.map_cons, List.map_nil, hx, Sem.run_bind, Sem.run_pure, Result.andThen_ok, buildSlice_write W k hB]

section
variable {w0 w w' w1 : World} {d g : Nat} {D : List Bytes} {L : List (Nat × Bytes)} {lv : Value}

/-- The stages of write's first region: 6 the sum, 8 the store. -/
def WrI (W : World) (g k : Nat) (B : Bytes) (s : Nat) (ξ : Nat → Value) (w : World) : Prop :=
  (s = 0 → w = W) ∧ (s = 1 → Turn (fun _ => False) W w ∧ ξ 6 = agg (summedB B)) ∧ (s = 2 → ∃ wm, Turn (fun _ => False) W wm ∧ w = wm.setCells g (k * 128) (bcells (summedB B)))

set_option maxRecDepth 10000 in
set_option maxHeartbeats 2000000 in
theorem write_calls (h : DI w0 d g D L lv w) {k : Nat} (hk : k < D.length) {B : Bytes} (hB : B.length = 128) (hL : L.length ≤ 100000) :
    Calls Tryz.prog 63 #[pt d, .int .i64 k, agg B] w fun e w' => e = .returned (.tuple #[]) ∧ ∃ lv', DI w0 d g (D.set k (summedB B)) (L ++ [(k, summedB B)]) lv' w' ∧ DStep d g w lv w' lv' := by
  have hS : (summedB B).length = 128 := by simp [hB]
  have hbx := box_new w B
  obtain ⟨bx, hbe⟩ : ∃ bx, w.heap.size = bx := ⟨_, rfl⟩
  obtain ⟨W, hW⟩ : ∃ W, (w.alloc (.cells (bcells B).toArray 63)).drew = W := ⟨_, rfl⟩
  have T0 : Turn (fun _ => False) w W := by rw [← hW]; exact ((Turn.refl _ w).alloc _).drew
  have hW1 := h.new T0
  have hb0 : Box W bx B := by rw [← hW, ← hbe]; exact hbx.keep rfl
  obtain ⟨n, hn⟩ : ∃ n, D.length = n := ⟨_, rfl⟩
  have H := Lib.hid (And.intro hW1 (And.intro hb0 (And.intro hk (And.intro hB (And.intro hS (And.intro hn hL))))))
  have HW := Lib.hid hW
  have HBE := Lib.hid hbe
  rw [hn] at hk
  have HT0 := Lib.hid T0
  clear h hbx hW hb0 T0 hB hL hS hn hW1
  go_enter Tryz.func63, Tryz.ntmps63
  go_upto_region 1 with fail
  clear hbe
  refine wp_region_planH (aX := ?aXa) [6, 8] [[], [6], [6, 8]] 2 [(0, 0, 0), (0, 1, 1), (1, 0, 0), (1, 1, 1), (2, 0, 0), (2, 1, 1), (3, 0, 0), (3, 1, 1), (4, 0, 0), (4, 1, 1), (5, 0, 0), (6, 0, 1), (7, 1, 1), (8, 1, 2)]
    [pt d, pt d, pt d, .slice (some ⟨g, 0, none⟩) n n, .int .i64 k, agg B, undef, .pointer (some ⟨g, k * 128, none⟩), undef] (WrI W g k B) (by kernel_rfl) (by kernel_rfl) rfl ?hXa (fun _ => undef) ?h0a ?hoba ?henda
  case hXa => intro ξ; simp only [mixAll, Act.put]; go_simp; rfl
  case h0a =>
    exact ⟨fun _ => HW.out, fun q => absurd q (by decide), fun q => absurd q (by decide)⟩
  case hoba =>
    refine oblsH_cons rfl (stepH_value rfl rfl ?_) ?_
    · rintro ξ w5 h5
      rfl
    refine oblsH_cons rfl (stepH_value rfl rfl ?_) ?_
    · rintro ξ w5 h5
      rfl
    refine oblsH_cons rfl (stepH_value rfl rfl ?_) ?_
    · rintro ξ w5 h5
      rfl
    refine oblsH_cons rfl (stepH_value rfl rfl ?_) ?_
    · rintro ξ w5 h5
      rfl
    refine oblsH_cons rfl (stepH_value rfl rfl ?_) ?_
    · rintro ξ w5 h5
      rfl
    refine oblsH_cons rfl (stepH_value rfl rfl ?_) ?_
    · rintro ξ w5 h5
      rfl
    refine oblsH_cons rfl (stepH_value rfl rfl ?_) ?_
    · rintro ξ w5 h5
      obtain rfl := h5.1 rfl
      have hdb := H.out.1.db
      rw [H.out.2.2.2.2.2.1] at hdb
      obtain ⟨c0, -, -, -, -⟩ := disk_cells hdb
      clear hdb
      clear h5
      go_simp
      try rfl
    refine oblsH_cons rfl (stepH_value rfl rfl ?_) ?_
    · rintro ξ w5 h5
      obtain ⟨hT, h22⟩ := h5.2.1 rfl
      have hdb := (H.out.1.new hT).db
      rw [H.out.2.2.2.2.2.1] at hdb
      obtain ⟨c0, -, -, -, -⟩ := disk_cells hdb
      clear hdb hT
      clear h5
      go_simp
      try rfl
    refine oblsH_cons rfl (stepH_value rfl rfl ?_) ?_
    · rintro ξ w5 h5
      rfl
    refine oblsH_cons rfl (stepH_value rfl rfl ?_) ?_
    · rintro ξ w5 h5
      rfl
    refine oblsH_cons rfl (stepH_value rfl rfl ?_) ?_
    · rintro ξ w5 h5
      obtain rfl := h5.1 rfl
      exact exec_load_block (.tmp 5) rfl rfl H.out.2.2.2.1 H.out.2.1.range
    refine oblsH_cons rfl (stepH_call rfl rfl ?_) ?_
    · rintro ξ w5 h5
      obtain rfl := h5.1 rfl
      refine ⟨22, #[agg B], by clear h5; go_simp, ?_⟩
      refine (summed_calls H.out.2.2.2.1).mono ?_
      rintro e6 w6 ⟨rfl, hT⟩
      exact ⟨_, rfl, ⟨fun q => absurd q (by decide), fun _ => ⟨hT, rfl⟩, fun q => absurd q (by decide)⟩⟩
    refine oblsH_cons rfl (stepH_value rfl rfl ?_) ?_
    · rintro ξ w5 h5
      obtain ⟨hT, h22⟩ := h5.2.1 rfl
      have hdb := (H.out.1.new hT).db
      rw [H.out.2.2.2.2.2.1] at hdb
      obtain ⟨c0, -, -, -, -⟩ := disk_cells hdb
      clear hdb hT
      clear h5
      go_simp
      try rfl
    refine oblsH_cons rfl (stepH_store rfl rfl rfl ?_) ?_
    · rintro ξ w5 h5
      obtain ⟨hT, h22⟩ := h5.2.1 rfl
      refine ⟨_, ?_, ⟨fun q => absurd q (by decide), fun q => absurd q (by decide), fun _ => ⟨w5, hT, rfl⟩⟩⟩
      exact exec_store_block (.tmp 13) (.tmp 12) rfl rfl (by show ξ 6 = _; exact h22) H.out.2.2.2.2.1 ((H.out.1.new hT).there H.out.2.2.1)
    exact oblsH_nil
  case henda =>
    rintro ξ wB h5
    obtain ⟨wm, hT, rfl⟩ := h5.2.2 rfl
    have hD2 := (H.out.1.new hT).store H.out.2.2.1 H.out.2.2.2.2.1
    have hS2 : DStep d g w lv (wm.setCells g (k * 128) (bcells (summedB B))) lv :=
      ⟨((HT0.out.trans hT).mono (fun _ _ e => e.elim)).trans ((turn_setCells _ _ wm).mono (fun _ _ e => .inr (.inl e))), fun _ e => .inl e⟩
    obtain ⟨w2, hw2⟩ : ∃ w2, wm.setCells g (k * 128) (bcells (summedB B)) = w2 := ⟨_, rfl⟩
    rw [hw2] at hD2 hS2 ⊢
    clear hw2 h5 hT
    obtain ⟨S, hS⟩ : ∃ S, summedB B = S := ⟨_, rfl⟩
    have hSl : S.length = 128 := by rw [← hS]; exact H.out.2.2.2.2.1
    have hkD : k < (D.set k S).length := by rw [List.length_set]; exact H.out.2.2.1
    rw [hS] at hD2
    have hrg : w2.drew.rangeAt g (k * 128) (bcells S) := by
      have := (World.rangeAt_drew _ _ _ _).2 (hD2.range hkD)
      rw [atD_set _ _ _ _ H.out.2.2.1, if_pos rfl] at this
      exact this
    have HR := Lib.hid (And.intro hrg (And.intro hSl hS))
    obtain ⟨la, ln, lc, rfl, hll, -⟩ := hD2.lg.form
    obtain ⟨q, hq⟩ : ∃ q, w2.drew.heap.size = q := ⟨_, rfl⟩
    have hD3 := hD2.new (((Turn.refl (fun _ => False) w2).drew).alloc (.cells (lcells [(k, S)]).toArray 184))
    have hsrc : Src (w2.drew.alloc (.cells (lcells [(k, S)]).toArray 184)) 129 (.slice (some ⟨q, 0, none⟩) 1 1) 1 (lcells [(k, S)]) := by
      have hl : (lcells [(k, S)]).length = 129 := by rw [lcells_length (fun x hx => by simp at hx; rw [hx]; exact hSl)]; rfl
      refine Src.slice _ _ _ _ (by rw [hl]) fun j u hu => ?_
      rw [Addr.add_lit, ← hq]
      exact cell_at (heap_alloc_new w2.drew _) (by simpa using hu)
    have hlen := lcells_length H.out.1.lk
    obtain ⟨v', wa, happ, hs1, ht1, ho1, -⟩ := run_append (P := Tryz.prog) (w2.drew.alloc (.cells (lcells [(k, S)]).toArray 184)) 58 58 58 184 129 136 _ Tryz.underlying58 (.inr ⟨_, Tryz.underlying58⟩) elemWrite _ _ hD3.lg _ 1 _ hsrc (by
      intro u hu
      simp [lcells] at hu
      rcases hu with rfl | hu
      · rfl
      · exact bcells_one S u hu) (by
      have hl : (lcells [(k, S)]).length = 129 := by rw [lcells_length (fun x hx => by simp at hx; rw [hx]; exact hSl)]; rfl
      have := H.out.2.2.2.2.2.2
      rw [hlen, hl]; omega) (by
      have hl : (lcells [(k, S)]).length = 129 := by rw [lcells_length (fun x hx => by simp at hx; rw [hx]; exact hSl)]; rfl
      have := H.out.2.2.2.2.2.2
      rw [hlen, hl]; omega)
    obtain ⟨v1, v2, v3, rfl, -⟩ := hs1.form
    rw [← lcells_append] at hs1
    have hDE := hD3.log (x := (k, S)) hSl hs1 ht1 (by
      rcases ho1 with e | e
      · exact .inl e
      · exact .inr ⟨_, e, Nat.le_refl _⟩)
    have hSE : DStep d g w (.slice la ln lc) (wa.setCell ⟨d, 1, none⟩ (.slice v1 v2 v3)) (.slice v1 v2 v3) := by
      refine hS2.trans ⟨?_, fun k hk => ?_⟩
      · exact ((((Turn.refl _ w2).drew.alloc _).mono (S := fun _ => False) (fun _ _ e => e.elim)).trans (ht1.mono (fun _ _ e => .inr (.inr e)))).setCell (fun _ => .inl rfl) _
      · rcases hk with e | e | e
        · exact .inl (.inl e)
        · exact .inl (.inr (.inl e))
        · rcases ho1 with q | q
          · exact .inl (.inr (.inr (q ▸ e)))
          · right; rw [q] at e; cases e; simp
    have hdb3 := hD3.db
    have hda := (ht1.block d hD3.dlt (fun e => (hD3.yl d e).2.1 rfl)).trans hdb3
    have hdb2 : w2.drew.heap[d]? = _ := hD2.db
    rw [List.length_set, H.out.2.2.2.2.2.1] at hdb2 hdb3 hda
    obtain ⟨c0, c1, -, -, -⟩ := disk_cells hdb2
    obtain ⟨e0, e1, -, -, -⟩ := disk_cells hdb3
    obtain ⟨f0, f1, -, -, f4⟩ := disk_cells hda
    have f4 := f4 1
    obtain ⟨w3, hw3⟩ : ∃ w3, w2.drew.alloc (.cells (lcells [(k, S)]).toArray 184) = w3 := ⟨_, rfl⟩
    rw [hw3] at happ e0 e1
    have HW3 := Lib.hid (And.intro hw3 hq)
    have HA := Lib.hid happ
    have HD := Lib.hid (And.intro hDE hSE)
    clear hD2 hD3 hsrc happ hw3 hq hs1 ht1 ho1 hDE hSE hS2 hdb3 hda hdb2 hlen hll hrg hSl hS hkD
    go_upto_region 2 with fail
    refine wp_region_planG (aF := ?aFb) [14, 15, 18] [[], [14], [14, 15], [14, 15, 18]] 3 [(0, 0, 0), (0, 1, 1), (0, 2, 2), (1, 0, 0), (1, 1, 1), (1, 2, 2), (2, 0, 0), (2, 1, 1), (3, 0, 0), (3, 1, 1), (4, 0, 0), (4, 1, 1), (5, 0, 0), (6, 0, 0), (6, 1, 1), (6, 2, 2), (7, 0, 0), (7, 1, 1), (7, 2, 2), (8, 0, 0), (8, 1, 1), (8, 2, 2), (9, 0, 0), (9, 1, 1), (9, 2, 2), (10, 0, 0), (10, 1, 1), (10, 2, 2), (11, 0, 0), (12, 0, 0), (13, 0, 0), (14, 0, 1), (15, 1, 2), (16, 2, 2), (17, 2, 2), (18, 2, 3)]
      [w2.drew, w3, wa, wa.setCell ⟨d, 1, none⟩ (.slice v1 v2 v3)]
      [pt d, pt d, pt d, .pointer (some ⟨d, 1, none⟩), .slice la ln lc, .int .i64 k, pt d, pt d, pt d, .slice (some ⟨g, 0, none⟩) n n, .int .i64 k, .pointer (some ⟨g, k * 128, none⟩), agg S, .agg (lcells [(k, S)]).toArray, .slice (some ⟨q, 0, none⟩) 1 1, .slice v1 v2 v3, pt d, .pointer (some ⟨d, 1, none⟩), undef]
      (by kernel_rfl) (by kernel_rfl) ?hFb rfl rfl rfl ?hobb ?hendb
    case hFb => simp only [putAll, Act.put]; go_simp; rfl
    case hobb =>
      repeat' (first
        | exact oblsG_nil
        | (refine oblsG_cons rfl rfl rfl ?_ ?_)
        | exact Runs.value rfl (exec_load_block (.tmp 25) rfl rfl HR.out.2.1 HR.out.1) rfl
        | exact Runs.value rfl (exec_build_write (.tmp 19) (.tmp 26) rfl rfl rfl HR.out.2.1) rfl
        | exact Runs.value rfl (exec_buildSlice_write (.tmp 27) rfl rfl HR.out.2.1) (by rw [HW3.out.1, HW3.out.2]; rfl)
        | exact Runs.append rfl (.tmp 18) (.tmp 28) 58 58 rfl _ _ _ rfl rfl HA.out rfl
        | (apply Runs.skip rfl rfl; (focus (go_simp; try exact rfl)); exact rfl)
        | (apply Runs.value rfl; (focus (go_simp; try exact rfl)); exact rfl))
    case hendb =>
      go_wp2_with fail
      go_end0
      rw [HR.out.2.2]
      exact ⟨rfl, _, HD.out⟩
end
end Go.Flr
