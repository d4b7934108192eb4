/-
  put: a file that is not there yet. (Printed by lib/pl.py out of flr/gen/FlrPut.src.)
-/
import Derived.Test.YtipjapijadgihaaGreatDoorQFlrSmall
set_option linter.unusedVariables false

namespace Go.Flr
open Go.Own Go.RowKit Go.Proofs

section
variable {w0 w w' w1 : World} {d g : Nat} {D : List Bytes} {L : List (Nat × Bytes)} {lv : Value}

/-- What a put finds out about its path. -/
structure Way (D : List Bytes) (p s : Bytes) (pre : List Bytes) (dir pb pa : Nat) (ks : List Nat) : Prop where
  ne : p ≠ []
  len : p.length ≤ 1000
  split : splitL p = pre ++ [s]
  names : ∀ x ∈ splitL p, isNameL x = true
  dlt : dir < D.length
  chain : ChainD D dir (35 + 2 * chainN s) ks
  find : findP D s dir (35 + 2 * chainN s) ks = (pb, pa)

/-- The stages of a region whose last operation is a call. -/
def LastI (W : World) (Q : World → Prop) (s : Nat) (_ : Nat → Value) (w : World) : Prop := (s = 0 → w = W) ∧ (s = 1 → Q w)

theorem slice_range {W : World} {b o n c : Nat} {data : Bytes} (h : RdAt W (.slice (some ⟨b, o, none⟩) n c) (bcells data)) (i : Nat) : W.rangeAt b (o + i * 123) (bcells (pieceL data i)) := fun j v hv => by
  have e : (bcells data)[i * 123 + j]? = some v := by
    unfold pieceL at hv
    rw [← bcells_take, ← bcells_drop, List.getElem?_take] at hv
    split at hv
    · rw [List.getElem?_drop] at hv; exact hv
    · cases hv
  have := h.cells _ v e
  rw [← Nat.add_assoc] at this
  exact this

set_option maxRecDepth 10000 in
set_option maxHeartbeats 4000000 in
theorem put_new (h : DI w0 d g D L lv w) {p s data : Bytes} {pre : List Bytes} {dir pb pa : Nat} {ks : List Nat} (hw : Way D p s pre dir pb pa ks)
    (hway : ∀ wr v, DI w0 d g D L lv wr → SliceAt wr 9 1 v (scells pre) → Calls Tryz.prog 93 #[pt d, v] wr fun e w' => e = .returned (.tuple #[.int .i64 (dir : Nat), .nilIface]) ∧ Turn (fun _ => False) wr w')
    (hno : numAt (atD D pb) pa = 0) {dv : Value} (hdv : RdAt w dv (bcells data)) (hdo : ∀ k, dv.ownBlock = some k → ¬ Dk d g lv k) (hdl : data.length ≤ 4920)
    {us : List Bool} (hus : us.length = D.length) (hU : ∀ wr, DI w0 d g D L lv wr → Calls Tryz.prog 98 #[pt d] wr fun e w' => ∃ v, e = .returned v ∧ Own1 wr w' 4 v (ucells us))
    (hfr : piecesN data.length + 1 ≤ (freeTo us D.length).length) (hL : L.length ≤ 50000) :
    Calls Tryz.prog 23 #[pt d, .string (bs p), dv] w fun e w' => e = .returned .nilIface ∧
      ∃ lv' L', DI w0 d g (pointD (putD D (fileB0 dir 0 s data.length) data ((freeTo us D.length).take (piecesN data.length + 1)) (piecesN data.length)) pb pa ((freeTo us D.length).getD (piecesN data.length) 0)) L' lv' w' ∧ DStep d g w lv w' lv' := by
  have HNm := Lib.hid (names_ok (w := w) p hw.ne hw.len h.env hw.names)
  have hPok := findP_ok (name := s) hw.chain hw.dlt (by have := chainN_lt s; omega)
  rw [hw.find] at hPok
  obtain ⟨da, dc, rfl, hdc, hdm⟩ := hdv.form
  simp only [bcells_length] at hdv hdc hdo ⊢
  obtain ⟨nn, hnn⟩ : ∃ nn, data.length = nn := ⟨_, rfl⟩
  obtain ⟨n, hn⟩ : ∃ n, piecesN nn = n := ⟨_, rfl⟩
  have hn2 : n ≤ 40 := by rw [← hn, ← hnn]; exact piecesN_le hdl
  have t1 := bs_toList p
  have t2 : p.isEmpty = false := by have := hw.ne; cases p with | nil => exact absurd rfl this | cons _ _ => rfl
  rw [hnn] at hdv hdc hdl hfr ⊢
  simp only [hnn] at hdo
  rw [hn] at hfr ⊢
  have H := Lib.hid (And.intro h (And.intro hw (And.intro hPok (And.intro hno (And.intro hdv (And.intro hdo (And.intro hus (And.intro hfr (And.intro hL (And.intro hnn hn))))))))))
  have HW := Lib.hid hway
  have HU := Lib.hid hU
  clear h hw hPok hno hdv hdo hus hfr hL hnn hn hway hU
  go_enter Tryz.func23, Tryz.ntmps23
  go_wp2_with fail
  refine HNm.out.mono ?_
  rintro e1 w1 ⟨v1, rfl, -, T1⟩
  have hD1 := H.out.1.new T1
  have HT := Lib.hid (target_ok hD1 H.out.2.1.ne H.out.2.1.len H.out.2.1.split H.out.2.1.names H.out.2.1.dlt H.out.2.1.chain HW.out H.out.2.1.find)
  have H1 := Lib.hid (And.intro T1 hD1)
  clear T1 hD1
  go_wp2_with fail
  refine HT.out.mono ?_
  rintro e2 w2 ⟨rfl, T2⟩
  rw [H.out.2.2.2.1]
  have H2 := Lib.hid (And.intro (H1.out.1.trans T2) (H1.out.2.new T2))
  clear T2 t1 t2
  go_upto_region 7 with fail
  obtain ⟨tb, htb⟩ : ∃ tb, w2.heap.size = tb := ⟨_, rfl⟩
  obtain ⟨W3, hW3⟩ : ∃ W3, w2.alloc (.cells #[.int .i64 (dir : Nat), .string (bs s), .int .i64 (pb : Nat), .int .i64 (pa : Nat), .int .i64 0] 139) = W3 := ⟨_, rfl⟩
  have T3 : Turn (fun _ => False) w2 W3 := by rw [← hW3]; exact (Turn.refl _ w2).alloc _
  have b3 : W3.heap[tb]? = some (.cells #[.int .i64 (dir : Nat), .string (bs s), .int .i64 (pb : Nat), .int .i64 (pa : Nat), .int .i64 0] 139 (0, 0)) := by rw [← hW3, ← htb]; exact heap_alloc_new w2 _
  rw [hW3, htb]
  have H3 := Lib.hid (And.intro (H2.out.1.trans T3) (And.intro (H2.out.2.new T3) (And.intro b3 (show w.heap.size ≤ tb by rw [← htb]; exact H2.out.1.size))))
  have y0 : W3.cell? ⟨tb, 3 + 1, none⟩ = some (.int .i64 0) := cell_at b3 rfl
  clear T3 b3 hW3 htb
  go_upto_region 9 with fail
  go_quiet (fail)
  clear y0
  have y0 : (W3.drewN nq).cell? ⟨tb, 3 + 1, none⟩ = some (.int .i64 0) := cell_at H3.out.2.2.1 rfl
  have HLk := Lib.hid (locked0 (W3.drewN nq) d)
  go_wp2_with fail
  refine HLk.out.mono ?_
  rintro e4 w4 ⟨rfl, T4⟩
  have H4 := Lib.hid ((turn_drewN (Turn.refl (fun _ => False) W3) nq).trans T4)
  have HPc := Lib.hid (pieces_calls (w := w4) nn (by omega))
  clear T4 y0
  go_wp2_with fail
  refine HPc.out.mono ?_
  rintro e5 w5 ⟨rfl, rfl⟩
  rw [H.out.2.2.2.2.2.2.2.2.2.2]
  have hD4 := H3.out.2.1.new H4.out
  have hFr := fresh_ok hD4 H.out.2.2.2.2.2.2.1 HU.out H.out.2.2.2.2.2.2.2.1
  rw [show ((n + 1 : Nat) : Int) = (n : Int) + 1 by omega] at hFr
  have HFr := Lib.hid hFr
  clear hFr
  have H4D := Lib.hid hD4
  clear hD4
  go_wp2_with fail
  refine HFr.out.mono ?_
  rintro e6 w6 ⟨fv, rfl, hF⟩
  obtain ⟨fr, hfr⟩ : ∃ fr, (freeTo us D.length).take (n + 1) = fr := ⟨_, rfl⟩
  have hfl : fr.length = n + 1 := by rw [← hfr, List.length_take]; have := H.out.2.2.2.2.2.2.2.1; omega
  rw [hfr] at hF
  obtain ⟨fa, fc, rfl, -, -⟩ := ints_form hF.at_
  rw [ncells_length, hfl] at hF ⊢
  have hb6 := (hF.turn.block tb (by have := heap_lt H3.out.2.2.1; have := H4.out.size; omega) (fun e => e)).trans ((H4.out.block tb (heap_lt H3.out.2.2.1) (fun e => e)).trans H3.out.2.2.1)
  have T6 := (H3.out.1.trans H4.out).trans hF.turn
  have H6 := Lib.hid (And.intro hF (And.intro (H4D.out.new hF.turn) (And.intro hb6 (And.intro T6 (And.intro hfr hfl)))))
  clear hF hb6 T6 hfr hfl
  go_upto_region 18 with fail
  have HB0 := Lib.hid (box_new w6 zeros)
  go_upto_region 19 with (first
    | (refine wpList_build_block rfl 2 (by decide) rfl ?_  )
    | (refine wpList_alloc_block rfl rfl ?_  )
    | (refine wpList_store_box rfl _ _ rfl rfl rfl HB0.out rfl (zeroB_length 2) ?_
       intro w7 b7 t7 z7
       have H7 := Lib.hid (And.intro b7 (And.intro t7 z7))
       clear b7 t7 z7))
  obtain ⟨fb, hfb⟩ : ∃ fb, w6.heap.size = fb := ⟨_, rfl⟩
  rw [hfb] at H7 ⊢
  have hDn := H4D.out.new H6.out.1.turn
  have hP0 : PM w0 w d g lv tb fb #[.int .i64 (dir : Nat), .string (bs s), .int .i64 (pb : Nat), .int .i64 (pa : Nat), .int .i64 0] (.slice fa (n + 1) fc) fr (.slice none 0 0) [] (.slice da nn dc) data D L lv (zeroB 2) w7 := by
    have e7 := H6.out.1.turn
    have T67 : Turn (fun _ => False) w6 w7 := by
      have t7 := H7.out.2.1
      have a7 := (Turn.refl (fun _ => False) w6).alloc (.cells (bcells zeros).toArray 63)
      exact ⟨t7.os.trans a7.os, t7.tape.trans a7.tape, t7.output.trans a7.output, Nat.le_trans a7.size t7.size, fun k hk _ => by
        rw [t7.block k (by simp; omega) (by omega)]; exact a7.block k hk (fun e => e)⟩
    have hsz := H6.out.2.2.2.1.size
    have hs5 : w.heap.size ≤ w5.heap.size := (H3.out.1.trans H4.out).size
    have hdk : ∀ k, w.heap.size ≤ k → ¬ Dk d g lv k := fun k hk e => by
      rcases e with e | e | e
      · have := H.out.1.dlt; omega
      · have := H.out.1.glt; omega
      · have := H.out.1.lg.lt k e; omega
    have htbl := heap_lt H6.out.2.2.1
    refine ⟨hDn.new T67, H.out.1.turn.size, DStep.new (H6.out.2.2.2.1.trans T67), (T67.block tb htbl (fun e => e)).trans H6.out.2.2.1, H6.out.1.at_.turn T67 (fun _ _ e => e), SliceAt.nil _ _ _, H7.out.1, H.out.2.2.2.2.1.turn (H6.out.2.2.2.1.trans T67) (fun _ _ e => e),
      ⟨hdk tb H3.out.2.2.2, by omega⟩, ⟨hdk fb (by omega), by omega⟩, fun k hk => ⟨hdk k (by have := H6.out.1.own k hk; omega), by have := H6.out.1.at_.lt k hk; omega⟩, fun k hk => by simp [Value.ownBlock] at hk, fun k hk => ⟨H.out.2.2.2.2.2.1 k hk, by have := H.out.2.2.2.2.1.lt k hk; omega⟩⟩
  have HP0 := Lib.hid hP0
  have y0 : w7.cell? ⟨tb, 0, none⟩ = some (.int .i64 (dir : Nat)) := cell_at hP0.tg rfl
  clear hP0 hDn hfb
  have HQ1 := Lib.hid (put_calls (i := 4) (v := dir) HP0.out.bx (zeroB_length 2) (by decide) (by have := H.out.2.1.dlt; have := H.out.1.hi; omega))
  go_wp2_with fail
  refine HQ1.out.mono ?_
  rintro e8 w8 ⟨rfl, b8, t8, -⟩
  have HP1 := Lib.hid (HP0.out.box t8 b8)
  clear b8 t8 y0 HQ1
  have y1 : w8.cell? ⟨tb, 1, none⟩ = some (.string (bs s)) := cell_at HP1.out.tg rfl
  have y4 : w8.cell? ⟨tb, 3 + 1, none⟩ = some (.int .i64 0) := cell_at HP1.out.tg rfl
  have hsl : s.length ≤ 24 := (isNameL_len (H.out.2.1.names s (by rw [H.out.2.1.split]; simp))).2
  have HQ2 := Lib.hid (named_calls (s := s) HP1.out.bx (by rw [putAt_length]; exact zeroB_length 2) hsl)
  go_wp2_with fail
  refine HQ2.out.mono ?_
  rintro e9 w9 ⟨rfl, b9, t9, -⟩
  have HP2 := Lib.hid (HP1.out.box t9 b9)
  have hl9 : (setName (putAt (zeroB 2) 4 dir) s).length = 128 := by rw [setName_length _ _ (by simp [zeroB_length]) hsl]; simp [zeroB_length]
  have HQ3 := Lib.hid (put_calls (i := 35) (v := nn) HP2.out.bx hl9 (by decide) (by omega))
  clear b9 t9 y1 y4 HQ2 HP1 hl9
  go_wp2_with fail
  refine HQ3.out.mono ?_
  rintro e10 w10 ⟨rfl, b10, t10, -⟩
  have hP3 := HP2.out.box t10 b10
  rw [show putAt (setName (putAt (zeroB 2) 4 dir) s) 35 nn = fileB0 dir 0 s nn from rfl] at hP3
  have HP3 := Lib.hid hP3
  clear b10 t10 HQ3 HP2 hP3
  have hck := chunk_calls da nn dc w10
  obtain ⟨q, hq⟩ : ∃ q, w10.heap.size = q := ⟨_, rfl⟩
  obtain ⟨W11, hW11⟩ : ∃ W11, (w10.alloc (.cells #[.slice da nn dc] 30)).alloc (.cells #[.int .i64 123] 3) = W11 := ⟨_, rfl⟩
  have T11 : Turn (fun _ => False) w10 W11 := by rw [← hW11]; exact ((Turn.refl _ w10).alloc _).alloc _
  have k0 : W11.cell? ⟨q, 0, none⟩ = some (.slice da nn dc) := by
    rw [← hW11, ← hq]; exact cell_alloc_l _ (cell_new_l w10 _ _).1
  have k1 : W11.cell? ⟨q + 1, 0, none⟩ = some (.int .i64 123) := by
    have := (cell_new_l (w10.alloc (.cells #[.slice da nn dc] 30)) (.int .i64 123) 3).1
    rw [World.size_alloc, hq, hW11] at this; exact this
  rw [hW11, hq] at hck
  have hda : 0 < nn → ∃ b o, da = some ⟨b, o, none⟩ := fun h0 => H.out.2.2.2.2.1.addr h0
  obtain ⟨cb, co, hcbo⟩ : ∃ b o, 0 < nn → da = some ⟨b, o, none⟩ := by
    by_cases h0 : 0 < nn
    · obtain ⟨b, o, e⟩ := hda h0; exact ⟨b, o, fun _ => e⟩
    · exact ⟨0, 0, fun e => absurd e h0⟩
  have hcl := collect_calls q (q + 1) cb co nn dc da hcbo (by omega) hdc k0 k1
  rw [H.out.2.2.2.2.2.2.2.2.2.2] at hcl
  have HCk := Lib.hid hck
  have HCl := Lib.hid hcl
  have HP4 := Lib.hid (And.intro (HP3.out.new T11) hcbo)
  clear hck hcl hW11 T11 k0 k1 hq hda hcbo HP3
  go_wp2_with fail
  refine HCk.out.mono ?_
  rintro e11 w11 ⟨rfl, rfl⟩
  go_wp2_with fail
  refine HCl.out.mono ?_
  rintro e12 w12 ⟨cv, rfl, hC⟩
  have hcl2 : (chunks cb co nn (List.range n)).length = n := by unfold chunks; simp
  obtain ⟨ca, cn, cc, rfl, hcn, -⟩ := hC.at_.form
  rw [hcl2, Nat.mul_one] at hcn
  subst hcn
  have HP5 := Lib.hid (HP4.out.1.chunks hC)
  clear hC hcl2
  go_wp2_with fail
  have HQ5 := Lib.hid (show ∃ lv2, PM w0 w d g lv tb fb #[.int .i64 (dir : Nat), .string (bs s), .int .i64 (pb : Nat), .int .i64 (pa : Nat), .int .i64 0] (.slice fa (n + 1) fc) fr (.slice ca n cc) (chunks cb co nn (List.range n)) (.slice da nn dc) data (putDk D data fr 0) (putLg L data fr 0) lv2 (putF (fileB0 dir 0 s nn) fr 0) w12 from ⟨lv, HP5.out⟩)
  have HS := Lib.hid (And.intro H6.out.2.2.2.2.1 (And.intro H6.out.2.2.2.2.2 (And.intro HP4.out.2 H.out)))
  have HF0 := Lib.hid (fileB0_length dir 0 s nn hsl)
  clear H H1 H2 H3 H4 H4D H6 H7 HB0 HW HU HNm HT HLk HPc HFr HP0 HP4 HP5 HCk HCl
  go_loopg [104] (n) (fun gk iv wr => ∃ i : Nat, gk + i = n ∧ iv = .int .i64 i ∧ ∃ lv2, PM w0 w d g lv tb fb #[.int .i64 (dir : Nat), .string (bs s), .int .i64 (pb : Nat), .int .i64 (pa : Nat), .int .i64 0] (.slice fa (n + 1) fc) fr (.slice ca n cc) (chunks cb co nn (List.range n)) (.slice da nn dc) data (putDk D data fr i) (putLg L data fr i) lv2 (putF (fileB0 dir 0 s nn) fr i) wr)
  case atStart => exact ⟨0, rfl, rfl, HQ5.out⟩
  case round =>
    obtain ⟨i, hgk, rfl, lv2, hP⟩ := hrel
    have hfl := HS.out.2.1
    have hfri : i < fr.length := by omega
    have hfrm : fr.getD i 0 ∈ fr := by rw [List.getD_eq_getElem?_getD, List.getElem?_eq_getElem hfri]; exact List.getElem_mem hfri
    have hflt : fr.getD i 0 < D.length := by
      have h2 : fr.getD i 0 ∈ (freeTo us D.length).take (n + 1) := by rw [HS.out.1]; exact hfrm
      exact freeTo_lt us _ _ (List.mem_of_mem_take h2)
    obtain ⟨fg, fo, rfl⟩ := hP.fs.addr (by omega)
    have cfr : ∀ W : World, (∀ k, k < wr.heap.size → W.heap[k]? = wr.heap[k]?) → W.cell? ⟨fg, fo + i, none⟩ = some (.int .i64 (fr.getD i 0 : Nat)) := fun W hW => by
      have := (hP.fs.keep (w' := W) (fun k hk => hW k (hP.fs.lt k hk))).cells i (.int .i64 (fr.getD i 0 : Nat)) (by unfold ncells; rw [List.getElem?_map, List.getElem?_eq_getElem hfri, List.getD_eq_getElem?_getD, List.getElem?_eq_getElem hfri]; rfl)
      exact this
    have hD256 : D.length ≤ 256 := HS.out.2.2.2.1.hi
    by_cases hi : i < n
    · have hn0 : 0 < nn := by have := HS.out.2.2.2.2.2.2.2.2.2.2.2.2.2; unfold piecesN at this; omega
      have hin : i * 123 < nn := by have := HS.out.2.2.2.2.2.2.2.2.2.2.2.2.2; unfold piecesN at this; omega
      obtain rfl := HS.out.2.2.1 hn0
      obtain ⟨cg, cgo, rfl⟩ := hP.cs.addr (by omega)
      obtain ⟨m, hm⟩ : ∃ m, min 123 (nn - i * 123) = m := ⟨_, rfl⟩
      have hm0 : 0 < m := by omega
      have hm1 : m ≤ 123 := by omega
      have hpl : (pieceL data i).length = m := by rw [pieceL_length, HS.out.2.2.2.2.2.2.2.2.2.2.2.2.1, hm]
      have hcc : wr.cell? ⟨cg, cgo + i, none⟩ = some (.slice (some ⟨cb, co + i * 123, none⟩) m m) := by
        have := hP.cs.cells i (chunkV cb co nn i) (by unfold chunks; simp [hi])
        unfold chunkV at this
        rw [hm] at this
        exact this
      obtain ⟨z, hz⟩ : ∃ z, i * 123 = z := ⟨_, rfl⟩
      rw [hz] at hcc
      have HM := Lib.hid (And.intro hP (And.intro hgk (And.intro hfl (And.intro hflt (And.intro cfr (And.intro hpl (And.intro hz hD256)))))))
      have hBx := Lib.hid (box_new wr zeros)
      clear hP hgk hfl hfri hfrm hflt cfr hpl hz hm hin hn0 hD256
      go_upto_region 27 with fail
      clear hcc
      go_upto_region 28 with (first
        | refine wpList_build_block rfl 3 (by decide) rfl ?_
        | refine wpList_alloc_block rfl rfl ?_
        | (refine wpList_store_box rfl _ _ rfl rfl rfl hBx.out rfl (zeroB_length 3) ?_
           intro w13 b13 t13 z13
           have H13 := Lib.hid (And.intro b13 (And.intro t13 z13))
           clear b13 t13 z13))
      obtain ⟨xb, hxb⟩ : ∃ xb, wr.heap.size = xb := ⟨_, rfl⟩
      rw [hxb] at H13 ⊢
      have c4 := (H13.out.1.there 4 (by rw [zeroB_length]; decide)).1
      rw [Nat.zero_add] at c4
      obtain ⟨u4, c4⟩ := Option.isSome_iff_exists.1 c4
      have f4 := H13.out.1.frozen 4
      have HX := Lib.hid hxb
      clear hxb
      have T13 : Turn (fun _ => False) wr (w13.setCell ⟨xb, 4, none⟩ (.int .u8 (m : Nat))) := by
        have t7 := H13.out.2.1
        have a7 := (Turn.refl (fun _ => False) wr).alloc (.cells (bcells zeros).toArray 63)
        have hxb := HX.out
        have t8 : Turn (fun _ => False) wr w13 := ⟨t7.os.trans a7.os, t7.tape.trans a7.tape, t7.output.trans a7.output, Nat.le_trans a7.size t7.size, fun k hk _ => by
          rw [t7.block k (by simp; omega) (by omega)]; exact a7.block k hk (fun e => e)⟩
        exact t8.setCell (fun (hlt : xb < wr.heap.size) => by omega) _
      have hsr := slice_range (HM.out.1.ds.turn T13 (fun _ _ e => e)) i
      rw [HM.out.2.2.2.2.2.2.1] at hsr
      have HSR := Lib.hid (And.intro hsr T13)
      clear hsr T13
      go_upto_region 30 with (
        refine wpList_copy_bytes rfl _ _ rfl rfl HM.out.2.2.2.2.2.1 rfl (H13.out.1.set 4 m (by omega)) HSR.out.1 (by have := HM.out.2.2.2.2.2.1; omega) (by have := HM.out.2.2.2.2.2.1; rw [List.length_set, zeroB_length]; omega) ?_
        intro w14 b14 t14 z14
        have H14 := Lib.hid (And.intro b14 (And.intro t14 z14))
        clear b14 t14 z14)
      clear c4 f4
      have T14 : Turn (fun _ => False) wr w14 := by
        have t14 := H14.out.2.1
        have a14 := HSR.out.2
        have hxb := HX.out
        exact ⟨t14.os.trans a14.os, t14.tape.trans a14.tape, t14.output.trans a14.output, Nat.le_trans a14.size t14.size, fun k hk _ => by
          have := a14.size
          rw [t14.block k (by omega) (by omega)]; exact a14.block k hk (fun e => e)⟩
      have P14 := (HM.out.1.new T14).new (Turn.refl (fun _ => False) w14).drew
      have hpl := HM.out.2.2.2.2.2.1
      have hbl : (dataBlk (pieceL data i)).length = 128 := dataBlk_length _ (by omega)
      have B14 : Box w14.drew xb (dataBlk (pieceL data i)) := by
        have := H14.out.1
        rw [← hpl] at this
        exact this.keep rfl
      have cfk := HM.out.2.2.2.2.1 w14.drew (fun k hk => T14.block k hk (fun e => e))
      obtain ⟨kk, hkk⟩ : ∃ kk, fr.getD i 0 = kk := ⟨_, rfl⟩
      have hkD := HM.out.2.2.2.1
      rw [hkk] at cfk hkD
      have hn1 : (i : Int) < (n : Int) + 1 := by omega
      have HK := Lib.hid (And.intro P14 (And.intro hbl (And.intro B14 (And.intro hkk (And.intro hkD T14)))))
      clear T14 P14 hpl hbl B14 hkk hkD
      refine wp_region_planH (aX := ?aXw) [6] [[], [6]] 1 [(0, 0, 0), (1, 0, 0), (2, 0, 0), (3, 0, 0), (4, 0, 0), (5, 0, 0), (6, 0, 1)]
        [pt d, .slice (some ⟨fg, fo, none⟩) (n + 1) fc, .int .i64 i, .pointer (some ⟨fg, fo + i, none⟩), .int .i64 kk, agg (dataBlk (pieceL data i)), undef] (LastI w14.drew (fun W => ∃ lv3, PM w0 w d g lv tb fb #[.int .i64 (dir : Nat), .string (bs s), .int .i64 (pb : Nat), .int .i64 (pa : Nat), .int .i64 0] (.slice (some ⟨fg, fo, none⟩) (n + 1) fc) fr (.slice (some ⟨cg, cgo, none⟩) n cc) (chunks cb co nn (List.range n)) (.slice (some ⟨cb, co, none⟩) nn dc) data (putDk D data fr (i + 1)) (putLg L data fr (i + 1)) lv3 (putF (fileB0 dir 0 s nn) fr i) W)) (by kernel_rfl) (by kernel_rfl) rfl ?hXw (fun _ => undef) ?h0w ?hobw ?hendw
      case hXw => intro ξ; simp only [mixAll, Act.put]; go_simp; rfl
      case h0w =>
        exact ⟨fun _ => rfl, fun q => absurd q (by decide)⟩
      case hobw =>
        refine oblsH_cons rfl (stepH_value rfl rfl ?_) ?_
        · rintro ξ w5 h5
          rfl
        refine oblsH_cons rfl (stepH_value rfl rfl ?_) ?_
        · rintro ξ w5 h5
          rfl
        refine oblsH_cons rfl (stepH_value rfl rfl ?_) ?_
        · rintro ξ w5 h5
          rfl
        refine oblsH_cons rfl (stepH_value rfl rfl ?_) ?_
        · rintro ξ w5 h5
          obtain rfl := h5.1 rfl
          clear h5
          go_simp
          try rfl
        refine oblsH_cons rfl (stepH_value rfl rfl ?_) ?_
        · rintro ξ w5 h5
          obtain rfl := h5.1 rfl
          clear h5
          go_simp
          try rfl
        refine oblsH_cons rfl (stepH_value rfl rfl ?_) ?_
        · rintro ξ w5 h5
          obtain rfl := h5.1 rfl
          exact exec_load_block (.tmp 17) rfl rfl HK.out.2.1 HK.out.2.2.1.range
        refine oblsH_cons rfl (stepH_call rfl rfl ?_) ?_
        · rintro ξ w5 h5
          obtain rfl := h5.1 rfl
          refine ⟨63, #[pt d, .int .i64 kk, agg (dataBlk (pieceL data i))], by clear h5; go_simp, ?_⟩
          refine (write_calls HK.out.1.di (k := kk) (by rw [putDk_length]; exact HK.out.2.2.2.2.1) HK.out.2.1 (by rw [putLg_length]; have := HS.out.2.2.2.2.2.2.2.2.2.2.2.1; omega)).mono ?_
          rintro e6 w6 ⟨rfl, lv3, h6, s6⟩
          refine ⟨_, rfl, ⟨fun q => absurd q (by decide), fun _ => ⟨lv3, ?_⟩⟩⟩
          have hst := HK.out.1.step h6 s6
          rw [← HK.out.2.2.2.1] at hst
          exact hst
        exact oblsH_nil
      case hendw =>
        rintro ξ w15 h5
        obtain ⟨lv3, P15⟩ := h5.2 rfl
        have HP15 := Lib.hid P15
        have cf5 : w15.cell? ⟨fg, fo + i, none⟩ = some (.int .i64 (kk : Nat)) := by
          have hfri : i < fr.length := by have := HM.out.2.2.1; omega
          have := P15.fs.cells i (.int .i64 (fr.getD i 0 : Nat)) (by unfold ncells; rw [List.getElem?_map, List.getElem?_eq_getElem hfri, List.getD_eq_getElem?_getD, List.getElem?_eq_getElem hfri]; rfl)
          rw [HK.out.2.2.2.1] at this
          exact this
        have hq := put_calls (i := 37 + 2 * i) (v := kk) P15.bx (by rw [putF_length]; exact HF0.out) (by omega) (by have := HK.out.2.2.2.2.1; have := HM.out.2.2.2.2.2.2.2; omega)
        rw [show ((37 + 2 * i : Nat) : Int) = 37 + 2 * (i : Int) by omega] at hq
        have HQ := Lib.hid hq
        clear h5 P15 hq cfk
        go_wp2_with fail
        refine HQ.out.mono ?_
        rintro e16 w16 ⟨rfl, b16, t16, -⟩
        have hP16 := HP15.out.box t16 b16
        rw [← HK.out.2.2.2.1] at hP16
        have HP16 := Lib.hid hP16
        clear b16 t16 hP16 cf5
        go_wp2_with fail
        have hgk := HM.out.2.1
        go_roundg (gk - 1)
        case rel => exact ⟨i + 1, by omega, by rfl, lv3, HP16.out⟩
        case measure => omega
    · have hin : i = n := by omega
      subst hin
      obtain ⟨kk, hkk⟩ : ∃ kk, fr.getD i 0 = kk := ⟨_, rfl⟩
      have cfk := cfr wr (fun k _ => rfl)
      rw [hkk] at cfk hflt
      have hFl : (putF (fileB0 dir 0 s nn) fr i).length = 128 := by rw [putF_length]; exact HF0.out
      have P14 := hP.new (Turn.refl (fun _ => False) wr).drew
      have hlen14 : (putLg L data fr i).length ≤ 50040 := by rw [putLg_length]; have := HS.out.2.2.2.2.2.2.2.2.2.2.2.1; omega
      have HK := Lib.hid (And.intro P14 (And.intro hFl (And.intro hkk (And.intro hflt (And.intro hlen14 hD256)))))
      have hn1 : (i : Int) < (i : Int) + 1 := by omega
      have cfk2 : wr.drew.cell? ⟨fg, fo + i, none⟩ = some (.int .i64 (kk : Nat)) := cfk
      clear hP hgk hfl hfri hfrm hflt cfr hkk P14 hFl hlen14 hD256 hi
      go_upto_region 33 with fail
      clear cfk
      refine wp_region_planH (aX := ?aXx) [6] [[], [6]] 1 [(0, 0, 0), (1, 0, 0), (2, 0, 0), (3, 0, 0), (4, 0, 0), (5, 0, 0), (6, 0, 1)]
        [pt d, .slice (some ⟨fg, fo, none⟩) (i + 1) fc, .int .i64 i, .pointer (some ⟨fg, fo + i, none⟩), .int .i64 kk, agg (putF (fileB0 dir 0 s nn) fr i), undef] (LastI wr.drew (fun W => ∃ lv3, PM w0 w d g lv tb fb #[.int .i64 (dir : Nat), .string (bs s), .int .i64 (pb : Nat), .int .i64 (pa : Nat), .int .i64 0] (.slice (some ⟨fg, fo, none⟩) (i + 1) fc) fr (.slice ca i cc) (chunks cb co nn (List.range i)) (.slice da nn dc) data (putD D (fileB0 dir 0 s nn) data fr i) (putLg L data fr i ++ [(kk, summedB (putF (fileB0 dir 0 s nn) fr i))]) lv3 (putF (fileB0 dir 0 s nn) fr i) W)) (by kernel_rfl) (by kernel_rfl) rfl ?hXx (fun _ => undef) ?h0x ?hobx ?hendx
      case hXx => intro ξ; simp only [mixAll, Act.put]; go_simp; rfl
      case h0x =>
        exact ⟨fun _ => rfl, fun q => absurd q (by decide)⟩
      case hobx =>
        refine oblsH_cons rfl (stepH_value rfl rfl ?_) ?_
        · rintro ξ w5 h5
          rfl
        refine oblsH_cons rfl (stepH_value rfl rfl ?_) ?_
        · rintro ξ w5 h5
          rfl
        refine oblsH_cons rfl (stepH_value rfl rfl ?_) ?_
        · rintro ξ w5 h5
          rfl
        refine oblsH_cons rfl (stepH_value rfl rfl ?_) ?_
        · rintro ξ w5 h5
          obtain rfl := h5.1 rfl
          clear h5
          go_simp
          try rfl
        refine oblsH_cons rfl (stepH_value rfl rfl ?_) ?_
        · rintro ξ w5 h5
          obtain rfl := h5.1 rfl
          clear h5
          go_simp
          try rfl
        refine oblsH_cons rfl (stepH_value rfl rfl ?_) ?_
        · rintro ξ w5 h5
          obtain rfl := h5.1 rfl
          exact exec_load_block (.tmp 14) rfl rfl HK.out.2.1 HK.out.1.bx.range
        refine oblsH_cons rfl (stepH_call rfl rfl ?_) ?_
        · rintro ξ w5 h5
          obtain rfl := h5.1 rfl
          refine ⟨63, #[pt d, .int .i64 kk, agg (putF (fileB0 dir 0 s nn) fr i)], by clear h5; go_simp, ?_⟩
          refine (write_calls HK.out.1.di (k := kk) (by rw [putDk_length]; exact HK.out.2.2.2.1) HK.out.2.1 (by have := HK.out.2.2.2.2.1; omega)).mono ?_
          rintro e6 w6 ⟨rfl, lv3, h6, s6⟩
          refine ⟨_, rfl, ⟨fun q => absurd q (by decide), fun _ => ⟨lv3, ?_⟩⟩⟩
          have hst := HK.out.1.step h6 s6
          have e : putD D (fileB0 dir 0 s nn) data fr i = (putDk D data fr i).set kk (summedB (putF (fileB0 dir 0 s nn) fr i)) := by unfold putD; rw [HK.out.2.2.1]
          rw [e]
          exact hst
        exact oblsH_nil
      case hendx =>
        rintro ξ w15 h5
        obtain ⟨lv3, P15⟩ := h5.2 rfl
        have P16 := P15.new (Turn.refl (fun _ => False) w15).drew
        have cf5 : w15.drew.cell? ⟨fg, fo + i, none⟩ = some (.int .i64 (kk : Nat)) := by
          have hfri : i < fr.length := by have := HS.out.2.1; omega
          have := P16.fs.cells i (.int .i64 (fr.getD i 0 : Nat)) (by unfold ncells; rw [List.getElem?_map, List.getElem?_eq_getElem hfri, List.getD_eq_getElem?_getD, List.getElem?_eq_getElem hfri]; rfl)
          rw [HK.out.2.2.1] at this
          exact this
        have y2 : w15.drew.cell? ⟨tb, 2, none⟩ = some (.int .i64 (pb : Nat)) := cell_at P16.tg rfl
        have y3 : w15.drew.cell? ⟨tb, 2 + 1, none⟩ = some (.int .i64 (pa : Nat)) := cell_at P16.tg rfl
        have HP16 := Lib.hid P16
        have hPok := HS.out.2.2.2.2.2.1
        clear h5 P15 P16 cfk2
        go_upto_region 34 with fail
        refine wp_region_planH (aX := ?aXy) [7] [[], [7]] 1 [(0, 0, 0), (1, 0, 0), (2, 0, 0), (3, 0, 0), (4, 0, 0), (5, 0, 0), (6, 0, 0), (7, 0, 1)]
          [pt d, .pointer (some ⟨tb, 2, none⟩), plc pb pa, .slice (some ⟨fg, fo, none⟩) (i + 1) fc, .int .i64 i, .pointer (some ⟨fg, fo + i, none⟩), .int .i64 kk, undef] (LastI w15.drew (fun W => ∃ lv4 L4, DI w0 d g (pointD (putD D (fileB0 dir 0 s nn) data fr i) pb pa kk) L4 lv4 W ∧ DStep d g w lv W lv4)) (by kernel_rfl) (by kernel_rfl) rfl ?hXy (fun _ => undef) ?h0y ?hoby ?hendy
        case hXy => intro ξ; simp only [mixAll, Act.put]; go_simp; rfl
        case h0y =>
          exact ⟨fun _ => rfl, fun q => absurd q (by decide)⟩
        case hoby =>
          refine oblsH_cons rfl (stepH_value rfl rfl ?_) ?_
          · rintro ξ w5 h5
            rfl
          refine oblsH_cons rfl (stepH_value rfl rfl ?_) ?_
          · rintro ξ w5 h5
            rfl
          refine oblsH_cons rfl (stepH_value rfl rfl ?_) ?_
          · rintro ξ w5 h5
            obtain rfl := h5.1 rfl
            clear h5
            go_simp
            try rfl
          refine oblsH_cons rfl (stepH_value rfl rfl ?_) ?_
          · rintro ξ w5 h5
            rfl
          refine oblsH_cons rfl (stepH_value rfl rfl ?_) ?_
          · rintro ξ w5 h5
            rfl
          refine oblsH_cons rfl (stepH_value rfl rfl ?_) ?_
          · rintro ξ w5 h5
            obtain rfl := h5.1 rfl
            clear h5
            go_simp
            try rfl
          refine oblsH_cons rfl (stepH_value rfl rfl ?_) ?_
          · rintro ξ w5 h5
            obtain rfl := h5.1 rfl
            clear h5
            go_simp
            try rfl
          refine oblsH_cons rfl (stepH_call rfl rfl ?_) ?_
          · rintro ξ w5 h5
            obtain rfl := h5.1 rfl
            refine ⟨64, #[pt d, plc pb pa, .int .i64 kk], by clear h5; go_simp, ?_⟩
            refine (point_calls HP16.out.di (pb := pb) (pa := pa) (x := kk) (by unfold putD; rw [List.length_set, putDk_length]; exact hPok.1) hPok.2 (by have := HK.out.2.2.2.1; have := HK.out.2.2.2.2.2; omega) (by have := HK.out.2.2.2.2.1; rw [List.length_append]; simp; omega)).mono ?_
            rintro e6 w6 ⟨rfl, lv4, h6, s6⟩
            exact ⟨_, rfl, ⟨fun q => absurd q (by decide), fun _ => ⟨lv4, _, h6, HP16.out.st.trans s6⟩⟩⟩
          exact oblsH_nil
        case hendy =>
          rintro ξ w17 h5
          obtain ⟨lv4, L4, h6, s6⟩ := h5.2 rfl
          have HZ := Lib.hid (And.intro h6 s6)
          clear h5 h6 s6 y2 y3 cf5
          go_wp2_with fail
          go_ret
          have e : (freeTo us D.length).getD i 0 = kk := by
            rw [← HK.out.2.2.1, ← HS.out.1, List.getD_eq_getElem?_getD, List.getD_eq_getElem?_getD, List.getElem?_take, if_pos (by omega)]
          rw [e, HS.out.1]
          exact ⟨rfl, lv4, L4, HZ.out⟩
end
end Go.Flr
