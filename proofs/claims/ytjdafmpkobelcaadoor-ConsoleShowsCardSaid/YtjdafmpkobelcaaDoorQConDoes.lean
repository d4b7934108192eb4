/-
  ConsoleDoes, for every input.
-/
import Derived.Deep.LoopGhost
import Derived.Test.YtjdafmpkobelcaaDoorQConHap
import Derived.Test.YtjdafmpkobelcaaDoorQRefNew
set_option linter.unusedVariables false

namespace Go.Con
open Go.Own Go.RowKit Go.Proofs

theorem evW_small {l : List Ev} {i : Nat} (h : evW l ≤ 3000) : evW (l.take i) ≤ 3000 := Nat.le_trans (evW_take l i) h

theorem run_good (l : List Ev) (i : Nat) (h : evW l ≤ 3000) : (CS.new.run (l.take i)).Ok ∧ (CS.new.run (l.take i)).Nf ∧ (CS.new.run (l.take i)).Small 750000 := by
  have h1 := CS.run_good (S := CS.new) (l.take i) CS.new_ok CS.new_nf CS.new_small
  exact ⟨h1.1, h1.2.1, h1.2.2.mono (by have := evW_small (i := i) h; omega)⟩

/-- The state of the loop: both consoles have had the first i events. -/
def DoesI (w0 : World) (C X : Nat) (l : List Ev) (i : Nat) (wr : World) : Prop :=
  ∃ g r, Both g r (CS.new.run (l.take i)) wr ∧ g.c = C ∧ r.g.c = X ∧ Old w0 wr ∧ (∀ k, k < w0.heap.size → (g.ρ k).1 = 0 ∧ (r.g.ρ k).1 = 0) ∧ r.wt.length ≤ evW (l.take i)

theorem old_st2 {w0 w w' : World} {g g' : Ghost} {r r' : RG} (o : Old w0 w) (h : ∀ k, k < w0.heap.size → (g.ρ k).1 = 0 ∧ (r.g.ρ k).1 = 0) (s : St2 g r g' r' w w') : Old w0 w' ∧ ∀ k, k < w0.heap.size → (g'.ρ k).1 = 0 ∧ (r'.g.ρ k).1 = 0 := by
  have hs := o.size
  refine ⟨o.trans ⟨s.turn.os, s.turn.tape, s.turn.output, s.turn.size, fun k hk hn => s.turn.block k hk fun q => ?_⟩, fun k hk => ?_⟩
  · have hk0 : k < w0.heap.size := Nat.lt_of_not_le hn
    rcases q with q | q
    · exact q (h k hk0).1
    · exact q (h k hk0).2
  · rw [s.tg k (by omega), s.tr k (by omega)]; exact h k hk

theorem BIn.of_cells {w0 w : World} {ρ : Tags} {a : Option Addr} {l : Bytes} (h : BCells w0 a l) (o : Old w0 w) (ht : ∀ k, k < w0.heap.size → (ρ k).1 = 0) : BIn ρ w a l := by
  rcases h with h | ⟨b, off, ha, hc⟩
  · exact .inl h
  · by_cases hl : l = []
    · exact .inl hl
    · have hb := World.block_lt_of_cell? w0 _ (hc 0 (List.length_pos_iff.2 hl))
      have hb' : b < w0.heap.size := hb
      refine .inr ⟨b, off, ha, ht b hb', Nat.lt_of_lt_of_le hb' o.size, fun i hi => ?_⟩
      rw [o.cell (p := ⟨b, off + i, none⟩) (fun hh => by have h6 : w0.heap.size ≤ b := hh; omega) hb']
      exact hc i hi

set_option maxRecDepth 20000 in
set_option maxHeartbeats 4000000 in
theorem does_calls (w0 : World) (l : List Ev) (a : Option Addr) (cap : Nat) (hin : EvIn w0 a l) (hlen : l.length ≤ 9223372036854775807) (hwf : ∀ p ∈ l, p.wf ∧ p.b.length ≤ 140737488351232) :
    Calls Tryd.prog 5 #[.slice a l.length cap] w0 fun e w' => e = .returned (.bool true) ∧ Old w0 w' := by
  have HH := Lib.hid (heavy_calls cap hin hlen fun p hp => (hwf p hp).2)
  by_cases hev : 3000 < evW l
  · have HE := Lib.hid (decide_eq_true hev)
    clear hin hlen hwf hev
    go_enter Tryd.func5, Tryd.ntmps5
    go_wp2_with fail
    refine HH.out.mono ?_
    rintro e1 w1 ⟨rfl, rfl⟩
    rw [HE.out]
    go_wp2_with fail
    go_ret
    exact ⟨rfl, Turn.refl _ _⟩
  · have HE := Lib.hid (decide_eq_false hev)
    have hle : evW l ≤ 3000 := by omega
    have hll := evW_len l
    have HI := Lib.hid (And.intro hin (And.intro hwf hle))
    have hl3 : l.length ≤ 3000 := by omega
    clear hin hlen hwf hev hle hll
    go_enter Tryd.func5, Tryd.ntmps5
    go_wp2_with fail
    refine HH.out.mono ?_
    rintro e1 w1 ⟨rfl, hw1⟩
    rw [HE.out, hw1]
    clear hw1
    go_wp2_with fail
    refine (new_calls w0).mono ?_
    rintro e2 w2 ⟨g, rfl, R0, T0, G0, n0⟩
    have hz := run_rzero w2.heap.size
    have r1 := rg0_rep w2 _ rfl
    obtain ⟨r, hr⟩ : ∃ x, x = rg0 w2.heap.size := ⟨_, rfl⟩
    rw [← hr] at hz r1
    have hrc : r.g.c = w2.heap.size := by rw [hr]; rfl
    have hrt : ∀ k, k ≠ w2.heap.size → r.g.ρ k = (0, 0) := fun k hk => by rw [hr]; show (if k = w2.heap.size then ((1, 0) : Tag) else (0, 0)) = _; rw [if_neg hk]
    have hrw : r.wt = [] := by rw [hr]; rfl
    have HR := Lib.hid (And.intro hrc (And.intro hrt hrw))
    obtain ⟨C, hC⟩ : ∃ C, g.c = C := ⟨_, rfl⟩
    obtain ⟨X, hX⟩ : ∃ X, w2.heap.size = X := ⟨_, rfl⟩
    have HG := Lib.hid (And.intro R0 (And.intro T0 (And.intro G0 (And.intro n0 (And.intro hC hX)))))
    have HR1 := Lib.hid r1
    rw [hC]
    clear hr hrc hrt hrw R0 T0 G0 n0 hC r1 hX
    generalize rcells r CS.new = Z at *
    go_upto_region 5 with fail
    rw [HG.out.2.2.2.2.2]
    have start : DoesI w0 C X l 0 (w2.alloc (.cells Z 48)) := by
      obtain ⟨R0, T0, G0, n0, hC, hX⟩ := HG.out
      have hz1 : (w2.alloc (.cells Z 48)).heap.size = w2.heap.size + 1 := by simp
      refine ⟨g, r, ⟨R0.alloc _, HR1.out, fun k => ?_⟩, hC, HR.out.1.trans hX, (T0.mono fun _ _ q => q.elim).alloc _, fun k hk => ⟨by rw [G0 k hk], by rw [HR.out.2.1 k (by have := T0.size; omega)]⟩, by rw [HR.out.2.2]; exact Nat.zero_le _⟩
      by_cases hk : k = w2.heap.size
      · exact .inl (R0.fresh k (by omega))
      · exact .inr (by rw [HR.out.2.1 k hk])
    have HS := Lib.hid start
    clear start hz
    generalize w2.alloc (.cells Z 48) = w3 at *
    go_wp2_with fail
    go_loopg [5] (l.length) (fun gk iv wr => ∃ i : Nat, gk + i = l.length ∧ iv = .int .i64 i ∧ DoesI w0 C X l i wr)
    case atStart => exact ⟨0, rfl, rfl, HS.out⟩
    case round =>
      obtain ⟨i, hk, rfl, hD⟩ := hrel
      by_cases hlt : i < l.length
      · obtain ⟨p, hp⟩ : ∃ p, l[i]? = some p := ⟨_, List.getElem?_eq_getElem hlt⟩
        obtain ⟨g1, r1, B1, hc1, hx1, o1, t1, m1⟩ := hD
        obtain ⟨b, off, rfl, hc⟩ := (HI.out.1.old o1).resolve_left (fun e => by rw [e] at hlt; simp at hlt)
        obtain ⟨c0, c1, ba, bc, c2, -⟩ := hc i p hp
        obtain ⟨b', off', hb', hc'⟩ := HI.out.1.resolve_left (fun e => by rw [e] at hlt; simp at hlt)
        obtain ⟨rfl, rfl⟩ : b = b' ∧ off = off' := by cases hb'; exact ⟨rfl, rfl⟩
        obtain ⟨-, -, ba', bc', c2', hcells⟩ := hc' i p hp
        obtain ⟨rfl, rfl⟩ : ba = ba' ∧ bc = bc' := by
          have hlb := World.block_lt_of_cell? w0 _ c2'
          have h5 : b < w0.heap.size := hlb
          rw [o1.cell (p := ⟨b, off + i * 3 + 2, none⟩) (fun hh => by have h6 : w0.heap.size ≤ b := hh; omega) hlb, c2'] at c2
          injection c2 with c2
          injection c2 with h1 h2 h3
          exact ⟨h1.symm, h3.symm⟩
        have hgood := run_good l i HI.out.2.2
        have hwp := HI.out.2.1 p (List.mem_of_getElem? hp)
        have hbp := evW_mem (List.mem_of_getElem? hp)
        have hhap := happens_calls hc1 hx1 B1 hgood.1 hgood.2.1 hgood.2.2 p (by have := HI.out.2.2; omega) (by have := HI.out.2.2; omega) (by have := evW_small (i := i) HI.out.2.2; omega) hwp.1 ba bc (BIn.of_cells hcells o1 fun k hk => (t1 k hk).1) (BIn.of_cells hcells o1 fun k hk => (t1 k hk).2)
        rw [← CS.run_succ CS.new hp] at hhap
        have HB := Lib.hid (And.intro B1 (And.intro o1 (And.intro t1 (And.intro m1 (And.intro hp (And.intro hc1 hx1))))))
        have HHap := Lib.hid hhap
        have hi0 : (0 : Int) ≤ (i : Int) := by omega
        have hi1 : (i : Int) < (l.length : Int) := by omega
        clear hc hb' hc' c2' hcells hgood hwp hbp hhap B1 o1 t1 m1 hp hc1 hx1
        go_wp2_with fail
        refine HHap.out.mono ?_
        rintro e4 w4 ⟨rfl, g4, r4, B4, s4, m4⟩
        have ho := old_st2 HB.out.2.1 HB.out.2.2.1 s4
        have H4 := Lib.hid (And.intro B4 (And.intro (s4.cg.trans HB.out.2.2.2.2.2.1) (And.intro (s4.cr.trans HB.out.2.2.2.2.2.2) (And.intro ho m4))))
        clear B4 s4 ho m4 c0 c1 c2
        obtain ⟨S4, hS4⟩ : ∃ S, CS.new.run (l.take (i + 1)) = S := ⟨_, rfl⟩
        have HS4 := Lib.hid hS4
        go_wp2_with fail
        refine (chosen_calls (g := g4) H4.out.2.1 H4.out.1.c).mono ?_
        rintro e5 w5 ⟨rfl, rfl⟩
        go_wp2_with fail
        refine (rchosen_calls (r := r4) H4.out.2.2.1 H4.out.1.x).mono ?_
        rintro e6 w6 ⟨rfl, r6, p6, s6, b6, t6⟩
        have st := H4.out.1.c.stands H4.out.1.ap s6
        have ho6 := old_st2 H4.out.2.2.2.1.1 H4.out.2.2.2.1.2 (St2.right g4 s6)
        have H6 := Lib.hid (And.intro st.1 (And.intro p6 (And.intro st.2 (And.intro ho6 (And.intro (s6.c.trans H4.out.2.2.1) (show r6.wt.length ≤ r1.wt.length + p.b.length from by rw [t6]; exact H4.out.2.2.2.2))))))
        clear p6 s6 b6 t6 st ho6
        go_wp2_with fail
        refine (typed_calls (g := g4) H4.out.2.1 H6.out.1).mono ?_
        rintro e7 w7 ⟨rfl, rfl⟩
        go_wp2_with fail
        refine (rtyped_calls (r := r6) H6.out.2.2.2.2.1 H6.out.2.1).mono ?_
        rintro e8 w8 ⟨rfl, rfl⟩
        go_wp2_with fail
        go_roundg (gk - 1)
        case measure => omega
        case rel =>
          refine ⟨i + 1, by omega, by go_num, g4, r6, ⟨H6.out.1, H6.out.2.1, H6.out.2.2.1⟩, H4.out.2.1, H6.out.2.2.2.2.1, H6.out.2.2.2.1.1, H6.out.2.2.2.1.2, ?_⟩
          rw [evW_succ HB.out.2.2.2.2.1]
          have := HB.out.2.2.2.1
          have := H6.out.2.2.2.2.2
          omega
      · have hi : i = l.length := by omega
        subst hi
        obtain ⟨g1, r1, B1, hc1, hx1, o1, t1, -⟩ := hD
        have hgood := run_good l l.length HI.out.2.2
        obtain ⟨S, hS⟩ : ∃ S, CS.new.run (l.take l.length) = S := ⟨_, rfl⟩
        rw [hS] at B1 hgood
        have hsc : S.screen.length ≤ 750000 := hgood.2.2.screen
        have HB := Lib.hid (And.intro B1 (And.intro hc1 (And.intro hx1 (And.intro o1 (And.intro t1 hsc)))))
        clear B1 hc1 hx1 o1 t1 hgood hS hsc
        go_wp2_with fail
        refine (screen_calls (g := g1) HB.out.2.1 HB.out.1.c (by have := HB.out.2.2.2.2.2; omega)).mono ?_
        rintro e4 w4 ⟨v4, rfl, a4, R4, s4, n4⟩
        have st := HB.out.1.x.stands HB.out.1.ap s4
        have ho := old_st2 HB.out.2.2.2.1 HB.out.2.2.2.2.1 (St2.left r1 s4)
        have H4 := Lib.hid (And.intro a4 (And.intro st.1 ho.1))
        clear a4 R4 s4 n4 st ho
        go_wp2_with fail
        refine (rscreen_calls (r := r1) HB.out.2.2.1 H4.out.2.1 (by have := HB.out.2.2.2.2.2; omega)).mono ?_
        rintro e5 w5 ⟨v5, rfl, B5⟩
        have a5 := H4.out.1.turn B5.old (fun b hb hh => by have h5 := H4.out.1.lt b hb; have h6 : w4.heap.size ≤ b := hh; omega)
        have o5 : Old w0 w5 := H4.out.2.2.trans ⟨B5.old.os, B5.old.tape, B5.old.output, B5.old.size, fun k hk hn => B5.old.block k hk fun hh => hn (Nat.le_trans H4.out.2.2.size hh)⟩
        obtain ⟨pa, pn, pc, rfl, -⟩ := a5.form
        obtain ⟨qa, qn, qc, rfl, -⟩ := B5.at_.form
        obtain ⟨rfl, P⟩ := BCells.of_slice a5
        obtain ⟨rfl, Q⟩ := BCells.of_slice B5.at_
        have H5 := Lib.hid (And.intro P (And.intro Q o5))
        clear a5 o5 B5 P Q
        go_wp2_with fail
        refine (eqBytes_calls w5 pa qa pc qc S.screen H5.out.1 H5.out.2.1 (by have := HB.out.2.2.2.2.2; omega)).mono ?_
        rintro e6 w6 ⟨rfl, t6⟩
        have o6 : Old w0 w6 := H5.out.2.2.trans (t6.mono fun _ _ q => q.elim)
        have H6 := Lib.hid o6
        clear t6 o6
        go_wp2_with fail
        refine (awake_calls w6).mono ?_
        rintro e7 w7 ⟨rfl, t7⟩
        have o7 : Old w0 w7 := H6.out.trans ⟨t7.os, t7.tape, t7.output, t7.size, fun k hk hn => t7.block k hk fun hh => hn (Nat.le_trans H6.out.size hh)⟩
        have H7 := Lib.hid o7
        clear t7 o7
        go_wp2_with fail
        go_ret
        exact ⟨rfl, H7.out⟩
end Go.Con
