/-
  ConsoleApart, for every input: the walk.
-/
import Derived.Test.YtjdafmpkobelcaaDoorQConApart
set_option linter.unusedVariables false

namespace Go.Con
open Go.Own Go.RowKit Go.Proofs

theorem BIn.other {g g' d : Ghost} {w w' : World} {a : Option Addr} {l : Bytes} (i2 : BIn d.ρ w a l) (i1 : BIn g.ρ w a l) (s : Step g g' w w') : BIn d.ρ w' a l := by
  rcases i2 with q | ⟨b, off, ha, hr, hb, hcell⟩
  · exact .inl q
  · rcases i1 with q | ⟨b', off', ha', hr', -, -⟩
    · exact .inl q
    · rw [ha] at ha'
      have hbb : b = b' := congrArg Addr.block (Option.some.inj ha')
      exact .inr ⟨b, off, ha, hr, Nat.lt_of_lt_of_le hb s.turn.size, fun i hi => old_cell s (by rw [hbb]; exact hr') (hcell i hi)⟩

theorem ApI.new {w0 w w' : World} {C X N : Nat} (h : ApI w0 C X N w) (t : Turn (fun _ => False) w w') : ApI w0 C X N w' := by
  obtain ⟨g, d, S, D, a1, a2, a3, a4, a5, a6, a7, a8⟩ := h
  exact ⟨g, d, S, D, a1.keep t (fun _ _ q => q.elim), a2.keep t (fun _ _ q => q.elim), a3, a4, a5, a6.trans (t.mono fun _ _ q => q.elim), a7, a8⟩

theorem small_add {S : CS} {n m : Nat} (h : S.Small n) (hm : n ≤ m) : S.Small m := h.mono hm

set_option maxRecDepth 20000 in
set_option maxHeartbeats 4000000 in
theorem apart_calls (w0 : World) (l : List Ev) (a : Option Addr) (cap : Nat) (hin : EvIn w0 a l) (hlen : l.length ≤ 9223372036854775807) (hwf : ∀ p ∈ l, p.wf ∧ p.b.length ≤ 140737488351232) :
    Calls Tryd.prog 4 #[.slice a l.length cap] w0 fun e w' => e = .returned (.bool true) ∧ Old w0 w' := by
  have HH := Lib.hid (heavy_calls cap hin hlen fun p hp => (hwf p hp).2)
  by_cases h200 : 200 < l.length
  · have q1 : decide ((200 : Int) < (l.length : Int)) = true := decide_eq_true (by omega)
    have q2 : decide (200 < l.length) = true := decide_eq_true h200
    clear hin hlen hwf h200
    go_enter Tryd.func4, Tryd.ntmps4
    go_wp2_with fail
    go_ret
    exact ⟨rfl, Turn.refl _ _⟩
  have q1 : decide ((200 : Int) < (l.length : Int)) = false := decide_eq_false (by omega)
  have q2 : decide (200 < l.length) = false := decide_eq_false h200
  by_cases hev : 3000 < evW l
  · have HE := Lib.hid (decide_eq_true hev)
    clear hin hlen hwf hev h200
    go_enter Tryd.func4, Tryd.ntmps4
    go_wp2_with fail
    refine HH.out.mono ?_
    rintro e1 w1 ⟨rfl, rfl⟩
    rw [HE.out]
    go_wp2_with fail
    go_ret
    exact ⟨rfl, Turn.refl _ _⟩
  · have HE := Lib.hid (decide_eq_false hev)
    have hle : evW l ≤ 3000 := by omega
    have HI := Lib.hid (And.intro hin (And.intro hwf hle))
    have hl3 : l.length ≤ 200 := by omega
    clear hin hlen hwf hev hle h200
    go_enter Tryd.func4, Tryd.ntmps4
    go_wp2_with fail
    refine HH.out.mono ?_
    rintro e1 w1 ⟨rfl, hw1⟩
    rw [HE.out, hw1]
    clear hw1
    go_wp2_with fail
    refine (new_calls w0).mono ?_
    rintro e2 w2 ⟨g, rfl, R0, T0, G0, n0⟩
    have H0 := Lib.hid (And.intro R0 (And.intro T0 (And.intro G0 n0)))
    clear R0 T0 G0 n0
    go_wp2_with fail
    refine (new_calls w2).mono ?_
    rintro e3 w3 ⟨d, rfl, R1, T1, G1, n1⟩
    obtain ⟨C, hC⟩ : ∃ C, g.c = C := ⟨_, rfl⟩
    obtain ⟨X, hX⟩ : ∃ X, d.c = X := ⟨_, rfl⟩
    have start : ApI w0 C X 0 w3 := by
      obtain ⟨R0, T0, G0, n0⟩ := H0.out
      refine ⟨g, d, _, _, R0.keep T1 (fun _ _ q => q.elim), R1, fun k => ?_, hC, hX, (T0.mono fun _ _ q => q.elim).trans ⟨T1.os, T1.tape, T1.output, T1.size, fun k hk _ => T1.block k hk (fun q => q)⟩, fun k hk => ⟨by rw [G0 k hk], by rw [G1 k (by have := T0.size; omega)]⟩, CS.Tq.refl _, CS.new_ok, CS.new_ok, CS.new_small, CS.new_small⟩
      rcases Nat.lt_or_ge k w2.heap.size with hk | hk
      · exact .inr (by rw [G1 k hk])
      · exact .inl (R0.fresh k hk)
    have HS := Lib.hid start
    rw [hC, hX]
    clear start R1 T1 G1 n1 H0 hC hX
    go_wp2_with fail
    go_loopg [5] (l.length) (fun gk iv wr => ∃ i : Nat, gk + i = l.length ∧ iv = .int .i64 i ∧ ApI w0 C X (250 * evW (l.take i)) wr)
    case atStart => exact ⟨0, rfl, rfl, HS.out⟩
    case round =>
      obtain ⟨i, hk, rfl, hD⟩ := hrel
      by_cases hlt : i < l.length
      · obtain ⟨p, hp⟩ : ∃ p, l[i]? = some p := ⟨_, List.getElem?_eq_getElem hlt⟩
        obtain ⟨g1, d1, S, D, B1, D1, ap, hc1, hx1, o1, t1, tq, okS, okD, smS, smD⟩ := hD
        obtain ⟨b, off, rfl, hc⟩ := (HI.out.1.old o1).resolve_left (fun e => by rw [e] at hlt; simp at hlt)
        obtain ⟨c0, c1, ba, bc, c2, -⟩ := hc i p hp
        obtain ⟨b', off', hb', hc'⟩ := HI.out.1.resolve_left (fun e => by rw [e] at hlt; simp at hlt)
        obtain ⟨rfl, rfl⟩ : b = b' ∧ off = off' := by cases hb'; exact ⟨rfl, rfl⟩
        obtain ⟨-, -, ba', bc', c2', hcells⟩ := hc' i p hp
        obtain ⟨rfl, rfl⟩ : ba = ba' ∧ bc = bc' := by
          have hlb := World.block_lt_of_cell? w0 _ c2'
          have h5 : b < w0.heap.size := hlb
          rw [o1.cell (p := ⟨b, off + i * 3 + 2, none⟩) (fun hh => by have h6 : w0.heap.size ≤ b := hh; omega) hlb, c2'] at c2
          injection c2 with c2
          injection c2 with h1 h2 h3
          exact ⟨h1.symm, h3.symm⟩
        have hwp := HI.out.2.1 p (List.mem_of_getElem? hp)
        have hbp := evW_mem (List.mem_of_getElem? hp)
        have hN : evW (l.take i) ≤ 3000 := evW_small HI.out.2.2
        obtain ⟨N, hNe⟩ : ∃ N, 250 * evW (l.take i) = N := ⟨_, rfl⟩
        have hNn : 250 * evW (l.take (i + 1)) = N + 250 * (1 + p.b.length) := by rw [evW_succ hp]; omega
        rw [hNe] at smS smD
        have hN2 : N ≤ 750000 := by omega
        have hbl : p.b.length ≤ 3000 := by have := HI.out.2.2; omega
        obtain ⟨ev, hev⟩ : ∃ o : Obj, Obj.cells #[.int .i64 p.d, .int .i64 p.t, .slice ba p.b.length bc] 29 = o := ⟨_, rfl⟩
        have B2 := B1.alloc ev
        have D2 := D1.alloc ev
        have o2 : Old w0 (wr.alloc ev) := o1.alloc ev
        have hx := heap_alloc_new wr ev
        obtain ⟨bx, hbx⟩ : ∃ bx, wr.heap.size = bx := ⟨_, rfl⟩
        have hg0 : (g1.ρ bx).1 = 0 := B1.fresh bx (by omega)
        have hd0 : (d1.ρ bx).1 = 0 := D1.fresh bx (by omega)
        have HNN := Lib.hid hNn
        have i1 := BIn.of_cells hcells o2 (fun k hk => (t1 k hk).1)
        have i2 := BIn.of_cells hcells o2 (fun k hk => (t1 k hk).2)
        have HBX := Lib.hid (And.intro hbx hev)
        clear hbx hNe hNn hN hbp hc hb' hc' c2' hcells B1 D1
        have hi0 : (0 : Int) ≤ (i : Int) := by omega
        have hi1 : (i : Int) < (l.length : Int) := by omega
        have HB := Lib.hid (And.intro B2 (And.intro D2 (And.intro ap (And.intro hc1 (And.intro hx1 (And.intro o2 (And.intro t1 (And.intro tq (And.intro okS (And.intro okD (And.intro smS (And.intro smD (And.intro i1 (And.intro i2 (And.intro hg0 (And.intro hd0 hwp))))))))))))))))
        clear B2 D2 ap hc1 hx1 o1 o2 t1 tq okS okD smS smD i1 i2 hg0 hd0 hwp
        obtain ⟨dd, tt, bl⟩ := p
        simp only at c0 c1 c2 hbl hev hx HNN HB
        clear hev
        go_upto_region 9 with fail
        have hx' := hx
        rw [HBX.out.1] at hx' ⊢
        rw [HBX.out.2]
        have k0 : (wr.alloc ev).cell? ⟨bx, 0, none⟩ = some (.int .i64 dd) := by rw [← HBX.out.2] at hx' ⊢; exact cell_at hx' rfl
        have k1 : (wr.alloc ev).cell? ⟨bx, 1, none⟩ = some (.int .i64 tt) := by rw [← HBX.out.2] at hx' ⊢; exact cell_at hx' rfl
        have k2 : (wr.alloc ev).cell? ⟨bx, 2, none⟩ = some (.slice ba bl.length bc) := by rw [← HBX.out.2] at hx' ⊢; exact cell_at hx' rfl
        obtain ⟨w4, hw4⟩ : ∃ w4, wr.alloc ev = w4 := ⟨_, rfl⟩
        rw [hw4] at HB k0 k1 k2 ⊢
        clear hx hx' hw4 c0 c1 c2
        go_upto_block 2 with fail
        go_cut [7, 8, 9] from 31 to 74 (fun z7 z8 z9 wx => ApI w0 C X (N + 250 * (1 + bl.length)) wx)
        case first =>
          obtain ⟨B2, D2, ap, hc1, hx1, o2, t1, tq, okS, okD, smS, smD, i1, i2, hg0, hd0, hwp⟩ := HB.out
          have same : ApI w0 C X (N + 250 * (1 + bl.length)) w4 := ⟨g1, d1, S, D, B2, D2, ap, hc1, hx1, o2, t1, tq, okS, okD, smS.mono (by omega), smD.mono (by omega)⟩
          have HSM := Lib.hid same
          clear same
          by_cases e0 : dd = 0
          · subst e0
            have HT := Lib.hid (type_calls (g := g1) (S := S) ba bc bl hc1 B2 okS smS (by omega) (by omega) i1)
            clear B2 D2 ap hc1 hx1 o2 t1 tq okS okD smS smD i1 i2 hg0 hd0 hwp
            go_wp2_with fail
            refine HT.out.mono ?_
            rintro e5 w5 ⟨v5, g5, rfl, r5, s5, o5, n5⟩
            obtain ⟨B2, D2, ap, hc1, hx1, o2, t1, tq, okS, okD, smS, smD, i1, i2, hg0, hd0, hwp⟩ := HB.out
            have y2 := old_cell s5 hg0 k2
            have st := D2.beside B2 ap.symm s5 r5
            have j2 := i2.other i1 s5
            have HT2 := Lib.hid (type_calls (g := d1) (S := D) ba bc bl hx1 st.1 okD smD (by omega) (by omega) j2)
            have n5' : ∀ b, v5.ownBlock = some b → (d1.ρ b).1 = 0 := fun b hb => D2.fresh b (n5 b hb).1
            have H5 := Lib.hid (And.intro r5 (And.intro s5 (And.intro o5 (And.intro n5' st))))
            clear B2 D2 ap hc1 hx1 o2 t1 tq okS okD smS smD i1 i2 hg0 hd0 hwp r5 s5 o5 n5 n5' st j2
            go_wp2_with fail
            refine HT2.out.mono ?_
            rintro e6 w6 ⟨v6, d6, rfl, r6, s6, o6, n6⟩
            obtain ⟨B2, D2, ap, hc1, hx1, o2, t1, tq, okS, okD, smS, smD, i1, i2, hg0, hd0, hwp⟩ := HB.out
            have ttq := CS.type_tq bl tq
            have o7 := H5.out.2.2.1.turn s6.turn (fun b hb hh => hh (H5.out.2.2.2.1 b hb))
            have st6 := H5.out.1.beside H5.out.2.2.2.2.1 H5.out.2.2.2.2.2.symm s6 r6
            have oo5 := old_step o2 (fun k hk => (t1 k hk).1) H5.out.2.1
            have oo6 := old_step oo5.1 (fun k hk => (t1 k hk).2) s6
            have fin : ApI w0 C X (N + 250 * (1 + bl.length)) w6 := ⟨g5, d6, _, _, st6.1, r6, st6.2, H5.out.2.1.c.trans hc1, s6.c.trans hx1, oo6.1, fun k hk => ⟨oo5.2 k hk, oo6.2 k hk⟩, ttq.1, CS.type_ok okS _, CS.type_ok okD _, CS.type_small smS okS bl (by omega), CS.type_small smD okD bl (by omega)⟩
            have hll := CS.type_lines D bl
            rw [ttq.2] at o7
            obtain ⟨L, hL⟩ : ∃ L, (D.type bl).2 = L := ⟨_, rfl⟩
            rw [hL] at o7 o6 hll
            obtain ⟨qa, qn, qc, rfl, -⟩ := o7.form
            obtain ⟨ra, rn, rc, rfl, -⟩ := o6.form
            obtain ⟨rfl, P⟩ := LCells.of_slice o7
            obtain ⟨rfl, Q⟩ := LCells.of_slice o6
            have hll3 : L.length ≤ 3000 := by omega
            have H6 := Lib.hid (And.intro P (And.intro Q fin))
            clear B2 D2 ap hc1 hx1 o2 t1 tq okS okD smS smD i1 i2 hg0 hd0 hwp r6 s6 o6 n6 ttq o7 st6 oo5 oo6 fin hll hL P Q k0 k1 k2 y2
            go_wp2_with fail
            go_loopg [9] (L.length) (fun gj iv wx => ∃ j : Nat, gj + j = L.length ∧ iv = .int .i64 j ∧ Turn (fun _ => False) w6 wx)
            case atStart => exact ⟨0, rfl, rfl, Turn.refl _ _⟩
            case round =>
              obtain ⟨j, hj, rfl, t8⟩ := hrel
              have HT8 := Lib.hid t8
              by_cases hjl : j < L.length
              · obtain ⟨b1, p1, rfl, h1⟩ := H6.out.1.resolve_left (fun e => by rw [e] at hjl; simp at hjl)
                obtain ⟨b2, p2, rfl, h2⟩ := H6.out.2.1.resolve_left (fun e => by rw [e] at hjl; simp at hjl)
                obtain ⟨x1, x2⟩ := h1 j hjl
                obtain ⟨y1, y2⟩ := h2 j hjl
                have z1 := World.block_lt_of_cell? w6 _ x1
                have z2 := World.block_lt_of_cell? w6 _ y1
                have m1 := (t8.cell (p := ⟨b1, p1 + j * 2, none⟩) (fun h => h) z1).trans x1
                have m2 := (t8.cell (p := ⟨b1, p1 + j * 2 + 1, none⟩) (fun h => h) z1).trans x2
                have m3 := (t8.cell (p := ⟨b2, p2 + j * 2, none⟩) (fun h => h) z2).trans y1
                have m4 := (t8.cell (p := ⟨b2, p2 + j * 2 + 1, none⟩) (fun h => h) z2).trans y2
                unfold str at m2 m4
                generalize L[j] = x at *
                have hj0 : (0 : Int) ≤ (j : Int) := by omega
                have hj1 : (j : Int) < (L.length : Int) := by omega
                clear h1 h2 x1 x2 y1 y2 z1 z2 t8
                go_wp2
                go_quiet (fail)
                go_wp2_with fail
                go_roundg (gk - 1)
                case measure => omega
                case rel => exact ⟨j + 1, by omega, by go_num, turn_drewN _ HT8.out⟩
              · clear t8
                go_wp2_with fail
                go_meet
                case rel => exact H6.out.2.2.new HT8.out
          · have e0b : (dd == 0) = false := by simp [e0]
            by_cases e1 : dd = 1
            · have e1b : (dd == 1) = true := by simp [e1]
              clear e0 e1
              by_cases hr : inR tt
              · obtain ⟨k, rfl⟩ := Int.eq_ofNat_of_zero_le (by have := hr.1; omega : 0 ≤ tt)
                have hk1 : 1 ≤ k := by have := hr.1; omega
                have hk2 : k ≤ 99 := by have := hr.2; omega
                have HT := Lib.hid (write_calls (g := g1) k ba bc bl hc1 B2 okS smS (by omega) (by omega) i1 hk1 hk2)
                clear B2 D2 ap hc1 hx1 o2 t1 tq okS okD smS smD i1 i2 hg0 hd0 hwp hr
                go_wp2_with fail
                refine HT.out.mono ?_
                rintro e5 w5 ⟨rfl, g5, r5, s5⟩
                obtain ⟨B2, D2, ap, hc1, hx1, o2, t1, tq, okS, okD, smS, smD, -⟩ := HB.out
                have FIN := Lib.hid (ApI.left (M := N + 250 * (1 + bl.length)) hc1 hx1 B2 D2 ap o2 t1 r5 s5 (CS.write_tq k bl tq) (CS.write_ok okS k hk1 hk2 bl) okD (CS.write_small smS okS k hk1 hk2 bl (by omega)) smD (by omega))
                clear B2 D2 ap hc1 hx1 o2 t1 tq okS okD smS smD r5 s5
                go_wp2_with fail
                go_meet
                case rel => exact FIN.out
              · have hr' : tt < 1 ∨ 99 < tt := by unfold inR at hr; omega
                have HT := Lib.hid (write_off (g := g1) (w := w4) tt hr' ba bl.length bc hc1)
                clear B2 D2 ap hc1 hx1 o2 t1 tq okS okD smS smD i1 i2 hg0 hd0 hwp hr hr'
                go_wp2_with fail
                refine HT.out.mono ?_
                rintro e5 w5 ⟨rfl, rfl⟩
                go_wp2_with fail
                go_meet
                case rel => exact HSM.out
            · have e1b : (dd == 1) = false := by simp [e1]
              by_cases e2 : dd = 2
              · have e2b : (dd == 2) = true := by simp [e2]
                clear e0 e1 e2
                by_cases hr : inR tt
                · obtain ⟨k, rfl⟩ := Int.eq_ofNat_of_zero_le (by have := hr.1; omega : 0 ≤ tt)
                  have hk1 : 1 ≤ k := by have := hr.1; omega
                  have hk2 : k ≤ 99 := by have := hr.2; omega
                  have HT := Lib.hid (flush_calls (g := g1) k hc1 B2 okS (Nat.le_trans smS.screen (by omega)) hk1 hk2)
                  clear B2 D2 ap hc1 hx1 o2 t1 tq okS okD smS smD i1 i2 hg0 hd0 hwp hr
                  go_wp2_with fail
                  refine HT.out.mono ?_
                  rintro e5 w5 ⟨rfl, g5, r5, s5⟩
                  obtain ⟨B2, D2, ap, hc1, hx1, o2, t1, tq, okS, okD, smS, smD, -⟩ := HB.out
                  have FIN := Lib.hid (ApI.left (M := N + 250 * (1 + bl.length)) hc1 hx1 B2 D2 ap o2 t1 r5 s5 (CS.flush_tq tq k) (CS.flush_ok okS k hk1 hk2) okD (CS.flush_small smS okS k (by omega)) smD (by omega))
                  clear B2 D2 ap hc1 hx1 o2 t1 tq okS okD smS smD r5 s5
                  go_wp2_with fail
                  go_meet
                  case rel => exact FIN.out
                · have hr' : tt < 1 ∨ 99 < tt := by unfold inR at hr; omega
                  have HT := Lib.hid (flush_off (g := g1) (w := w4) tt hr' hc1)
                  clear B2 D2 ap hc1 hx1 o2 t1 tq okS okD smS smD i1 i2 hg0 hd0 hwp hr hr'
                  go_wp2_with fail
                  refine HT.out.mono ?_
                  rintro e5 w5 ⟨rfl, rfl⟩
                  go_wp2_with fail
                  go_meet
                  case rel => exact HSM.out
              · have e2b : (dd == 2) = false := by simp [e2]
                clear e0 e1 e2 B2 D2 ap hc1 hx1 o2 t1 tq okS okD smS smD i1 i2 hg0 hd0 hwp
                go_wp2_with fail
                go_meet
                case rel => exact HSM.out
        case rest =>
          obtain ⟨g5, d5, S5, D5, R5, Q5, ap5, hc5, hx5, o5, t5, tq5, okS5, okD5, smS5, smD5⟩ := hcut
          have e1 := tq5.typed
          have e2 := tq5.chosen
          have HF := Lib.hid (show ApI w0 C X (250 * evW (l.take (i + 1))) wc from by rw [HNN.out]; exact ⟨g5, d5, S5, D5, R5, Q5, ap5, hc5, hx5, o5, t5, tq5, okS5, okD5, smS5, smD5⟩)
          have HR := Lib.hid (And.intro R5 (And.intro Q5 (And.intro hc5 hx5)))
          clear R5 Q5 ap5 hc5 hx5 o5 t5 tq5 okS5 okD5 smS5 smD5 k0 k1 k2 HB
          go_wp2_with fail
          refine (typed_calls (g := g5) HR.out.2.2.1 HR.out.1).mono ?_
          rintro e5 w5 ⟨rfl, rfl⟩
          go_wp2_with fail
          refine (typed_calls (g := d5) HR.out.2.2.2 HR.out.2.1).mono ?_
          rintro e6 w6 ⟨rfl, rfl⟩
          go_wp2_with fail
          refine (chosen_calls (g := g5) HR.out.2.2.1 HR.out.1).mono ?_
          rintro e7 w7 ⟨rfl, rfl⟩
          go_wp2_with fail
          refine (chosen_calls (g := d5) HR.out.2.2.2 HR.out.2.1).mono ?_
          rintro e8 w8 ⟨rfl, rfl⟩
          go_wp2_with fail
          go_roundg (gk - 1)
          case measure => omega
          case rel => exact ⟨i + 1, by omega, by go_num, HF.out⟩
      · have hi : i = l.length := by omega
        subst hi
        obtain ⟨g1, d1, S, D, -, -, -, -, -, o1, -⟩ := hD
        have HO := Lib.hid o1
        clear o1
        go_wp2_with fail
        refine (awake_calls wr).mono ?_
        rintro e7 w7 ⟨rfl, t7⟩
        have o7 : Old w0 w7 := HO.out.trans ⟨t7.os, t7.tape, t7.output, t7.size, fun k hk hn => t7.block k hk fun hh => hn (Nat.le_trans HO.out.size hh)⟩
        have H7 := Lib.hid o7
        clear t7 o7
        go_wp2_with fail
        go_ret
        exact ⟨rfl, H7.out⟩
end Go.Con
