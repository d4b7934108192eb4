/-
  StoreBack, walked.
-/
import Derived.Deep.CutRange
import Derived.Deep.CutBlock
import Derived.Deep.LoopGhost
import Derived.StillTailTactics
import Derived.Test.YtahfoejffibahaaQStoActs
import Derived.Test.YtahfoejffibahaaQStoBackPure
import Derived.Test.YtahfoejffibahaaQStoRest
import Derived.Test.YtahfoejffibahaaQStoEq
set_option linter.unusedVariables false

namespace Go.Sto
open Go.Own Go.RowKit Go.Proofs

theorem ublk_form {w : World} {v : Value} {l : List Int} (h : SliceAt w 5 1 v (bcells l)) (hl : 8 ≤ l.length) :
    ∃ b a cap, v = .slice a l.length cap ∧ l.length ≤ cap ∧ BytesC w b a l ∧ BytesA w a l := by
  obtain ⟨a, n, cap, rfl, hlen, hn, hc, -⟩ := h.form
  have : n = l.length := by rw [bcells_length] at hlen; omega
  subst this
  obtain ⟨b, off, rfl⟩ := h.addr (by omega)
  have hcell : ∀ k x, l[k]? = some x → w.cell? ⟨b, off + k, none⟩ = some (.int .u8 x) := fun k x hk => h.cells k _ (by simp [bcells, hk])
  exact ⟨b, _, cap, rfl, hn, fun k x hk => ⟨off, rfl, hcell k x hk⟩, fun k x hk => ⟨b, off, rfl, hcell k x hk⟩⟩

/-- Two stores, apart. -/
structure Duo (w0 : World) (n : Nat) (g t : Ghost) (S T : St) (w : World) : Prop where
  one : SI w0 n g S w
  two : SI w0 n t T w
  apart : ∀ k, (g.ρ k).1 ≠ 0 → (t.ρ k).1 = 0

theorem Duo.swap {w0 : World} {n : Nat} {g t : Ghost} {S T : St} {w : World} (h : Duo w0 n g t S T w) : Duo w0 n t g T S w :=
  ⟨h.two, h.one, fun k hk => by
    by_cases q : (g.ρ k).1 = 0
    · exact q
    · exact absurd (h.apart k q) hk⟩
theorem Duo.below {w0 : World} {n : Nat} {g t : Ghost} {S T : St} {w w' : World} (h : Duo w0 n g t S T w) (hB : Below w.heap.size w w') : Duo w0 n g t S T w' := ⟨h.one.below hB, h.two.below hB, h.apart⟩
theorem Duo.step {w0 : World} {n : Nat} {g g' t : Ghost} {S S' T : St} {w w' : World} (h : Duo w0 n g t S T w) (r : Repo g' S' w') (s : Step g g' w w') : Duo w0 n g' t S' T w' := by
  have h1 := h.one.step r s
  refine ⟨h1, { repo := ⟨h.two.repo.rep.keep s.turn (fun k _ hT => h.apart k hT), h.two.repo.ok⟩, gn := h.two.gn, held := SliceAt.nil _ _ _, marks := SliceAt.nil _ _ _, th := fun b hb => by simp [Value.ownBlock] at hb, tm := fun b hb => by simp [Value.ownBlock] at hb, apart := fun b hb => by simp [Value.ownBlock] at hb, old := h1.old, tags := h.two.tags }, fun k hk => ?_⟩
  rcases Nat.lt_or_ge k w.heap.size with q | q
  · exact h.apart k (by rw [← s.tags k q]; exact hk)
  · exact h.two.repo.rep.fresh k q

set_option maxRecDepth 100000 in
set_option maxHeartbeats 4000000 in
theorem back_good (w0 : World) (n : Nat) (h0 : 4 ≤ n) (h1 : n ≤ 2000) (h2 : n % 2 = 0) (l : List Act4) (a : Option Addr) (cap : Nat) (hl : l.length ≤ 60) (hin : AIn w0 a l) (hwf : ∀ p ∈ l, p.wf) :
    Calls Try.prog 9 #[.int .i64 n, .slice a l.length cap] w0 fun e w' => e = .returned (.bool true) ∧ Old w0 w' := by
  have q1 : decide ((2000 : Int) < (n : Int)) = false := by simp; omega
  have q2 : decide ((60 : Int) < (l.length : Int)) = false := by simp; omega
  have q1' : decide (2000 < n) = false := by simp; omega
  have q2' : decide (60 < l.length) = false := by simp; omega
  have HI := Lib.hid (And.intro hin hwf)
  clear hin hwf
  go_enter Try.func9, Try.ntmps9
  go_wp2_with fail
  refine (new_good n h0 (by omega) h2 w0).mono ?_
  rintro e1 w1 ⟨g1, rfl, hgn, r1, hB1, htag, hk1⟩
  have start : Any w0 n g1.s w1 := ⟨g1, newS n, si_start r1 hgn hB1 htag, rfl⟩
  obtain ⟨s, hs⟩ : ∃ s, g1.s = s := ⟨_, rfl⟩
  rw [hs] at start ⊢
  have HST := Lib.hid start
  clear start r1 hB1 htag hk1 hgn hs
  go_wp2
  go_loopg [7] (l.length) (fun k i wr => k ≤ l.length ∧ i = .int .i64 ((l.length - k : Nat) : Int) ∧ Any w0 n s wr)
  case atStart => exact ⟨Nat.le_refl _, by simp, HST.out⟩
  case round =>
    obtain ⟨hk, rfl, hTI⟩ := hrel
    obtain ⟨j, hj⟩ : ∃ j, l.length - gk = j := ⟨_, rfl⟩
    rw [hj]
    have HJ := Lib.hid hj
    clear hj
    obtain ⟨g, S, hMI, hgs⟩ := hTI
    by_cases hlt : j < l.length
    · obtain ⟨p, hp⟩ : ∃ p, l[j]? = some p := ⟨_, List.getElem?_eq_getElem hlt⟩
      obtain ⟨b, off, rfl, hc⟩ := (HI.out.1.old hMI.old).resolve_left (by intro e; rw [e] at hlt; simp at hlt)
      obtain ⟨c0, c1, c2, c3⟩ := hc j p hp
      have hpw := HI.out.2 p (List.mem_of_getElem? hp)
      have HM := Lib.hid (And.intro hMI (And.intro hgs hpw))
      clear hMI hgs hpw
      have HC := Lib.hid (And.intro (And.intro c0 (And.intro c1 (And.intro c2 c3))) (And.intro hc hp))
      clear c1 c2 c3 hc hp
      obtain ⟨⟨-, c1, c2, c3⟩, -⟩ := HC.out
      by_cases d0 : p.d = 0
      · rw [d0] at c0
        clear d0
        go_wp2_with fail
        refine (get_full HM.out.1.repo HM.out.2.1 p.a).mono ?_
        rintro e2 w2 ⟨rfl, g2, r2, s2⟩
        have M2 := HM.out.1.step r2 s2
        have HM2 := Lib.hid (And.intro M2 (s2.s.trans HM.out.2.1))
        obtain ⟨A2, hA2⟩ : ∃ A2, (get S p.a).2.1 = A2 := ⟨_, rfl⟩
        obtain ⟨E2, hE2⟩ : ∃ A2, (get S p.a).2.2 = A2 := ⟨_, rfl⟩
        obtain ⟨b', off', e', hc2⟩ := (HI.out.1.old M2.old).resolve_left (by intro e; rw [e] at hlt; simp at hlt)
        cases e'
        obtain ⟨-, -, k2, k3⟩ := hc2 j p HC.out.2.2
        rw [hA2, hE2]
        clear c1 c2 c3 M2 r2 s2 hA2 hE2 hc2
        go_upto_region 12 with fail
        go_still_tail 12, (by kernel_rfl)
        repeat still_step
        change wpList _ _ _ _ _ w2.drew
        go_wp2_with fail
        refine (write_calls HM2.out.1.repo.drew HM2.out.2 A2 p.b p.c HM.out.2.2.2.2.2).mono ?_
        rintro e3 w3 ⟨rfl, g3, r3, s3⟩
        have FIN := Lib.hid (show Any w0 n s w3 from ⟨g3, _, HM2.out.1.step r3 ((Step.refl g2 w2).drew.trans s3), s3.s.trans HM2.out.2⟩)
        clear r3 s3 k2 k3
        go_wp2_with fail
        go_roundg (gk - 1)
        case measure => have := HJ.out; omega
        case rel =>
          have hjj := HJ.out
          have e1 : l.length - (gk - 1) = j + 1 := by omega
          rw [e1]
          exact ⟨by omega, by go_num, FIN.out⟩
      · by_cases d1 : p.d = 1
        · rw [d1] at c0
          clear d1 d0
          go_wp2_with fail
          refine (put_calls HM.out.1.repo HM.out.2.1 p.a).mono ?_
          rintro e2 w2 ⟨rfl, g2, r2, s2⟩
          have FIN := Lib.hid (show Any w0 n s w2 from ⟨g2, _, HM.out.1.step r2 s2, s2.s.trans HM.out.2.1⟩)
          clear r2 s2 c1 c2 c3
          go_wp2_with fail
          go_roundg (gk - 1)
          case measure => have := HJ.out; omega
          case rel =>
            have hjj := HJ.out
            have e1 : l.length - (gk - 1) = j + 1 := by omega
            rw [e1]
            exact ⟨by omega, by go_num, FIN.out⟩
        · have e0 : (p.d == 0) = false := beq_eq_false_iff_ne.2 d0
          have e1 : (p.d == 1) = false := beq_eq_false_iff_ne.2 d1
          have FIN := Lib.hid (show Any w0 n s wr from ⟨g, S, HM.out.1, HM.out.2.1⟩)
          clear d0 d1 c1 c2 c3
          go_wp2_with fail
          go_roundg (gk - 1)
          case measure => have := HJ.out; omega
          case rel =>
            have hjj := HJ.out
            have e1 : l.length - (gk - 1) = j + 1 := by omega
            rw [e1]
            exact ⟨by omega, by go_num, FIN.out⟩
    · have HM := Lib.hid (And.intro hMI hgs)
      have hjl : l.length = j := by have := HJ.out; omega
      clear HJ hMI hgs hlt
      subst hjl
      go_upto_region 16 with (go_at_call 27; refine (image_calls HM.out.1.repo HM.out.2).mono ?_; rintro e2 w2 ⟨v2, rfl, s2, hB2, -⟩)
      have hno : (image n S).length ≤ 1000000000 ∧ 8 ≤ (image n S).length := by
        have := image_length HM.out.1.repo.ok
        rw [HM.out.1.gn] at this
        exact ⟨this.2, this.1⟩
      rw [HM.out.1.gn] at s2
      obtain ⟨bb, ab, cb, rfl, hcb, hBC, hBA⟩ := ublk_form s2 hno.2
      have HM2 := Lib.hid (HM.out.1.below hB2)
      have HB := Lib.hid (And.intro hBC (And.intro hBA (And.intro hcb hno)))
      clear s2 hB2 hBC hBA hcb hno
      have hri : restore (image n S) = .ok ((n : Int), S) := by
        have := restore_image HM.out.1.repo.ok
        rwa [HM.out.1.gn] at this
      have HR := Lib.hid (show Calls Try.prog 28 #[.slice ab (image n S).length cb] w2 fun e w' => ∃ t : Ghost, e = .returned (.tuple #[.pointer (some ⟨t.s, 0, none⟩), .int .i64 0]) ∧ t.n = n ∧ Repo t S w' ∧ Below w2.heap.size w2 w' ∧ (∀ k, k < w2.heap.size → t.ρ k = (0, 0)) from (restore_calls HB.out.1 HB.out.2.2.1 HB.out.2.2.2.1 (image_bytes n S)).mono (by
        rintro e3 w3 (⟨er, hr, -⟩ | ⟨n', S', t, hr, rfl, ht1, rt, hB3, htag3, -⟩)
        · rw [hri] at hr; cases hr
        · rw [hri] at hr
          simp only [Except.ok.injEq, Prod.mk.injEq] at hr
          obtain ⟨hn', rfl⟩ := hr
          exact ⟨t, rfl, by omega, rt, hB3, htag3⟩))
      clear hri
      go_upto_region 17 with (go_at_call 28; refine HR.out.mono ?_; rintro e3 w3 ⟨t, rfl, ht1, rt, hB3, htag3⟩)
      have hzw : w0.heap.size ≤ w2.heap.size := HM2.out.old.size
      have two : SI w0 n t S w3 :=
        { repo := rt, gn := ht1, held := SliceAt.nil _ _ _, marks := SliceAt.nil _ _ _, th := fun b hb => by simp [Value.ownBlock] at hb, tm := fun b hb => by simp [Value.ownBlock] at hb, apart := fun b hb => by simp [Value.ownBlock] at hb,
          old := (HM2.out.below hB3).old, tags := fun k hk => by rw [htag3 k (by omega)] }
      have duo : Duo w0 n g t S S w3 := ⟨HM2.out.below hB3, two, fun k hk => by rw [htag3 k (HM2.out.repo.rep.lt hk)]⟩
      have HD := Lib.hid duo
      obtain ⟨s', hs'⟩ : ∃ s', t.s = s' := ⟨_, rfl⟩
      rw [hs']
      have HBA := Lib.hid (And.intro (HB.out.2.1.below hB3) (And.intro HM.out.2 hs'))
      clear two duo rt htag3 hB3 ht1 hs' hzw HR HB HM2
      go_wp2_with fail
      refine (blocks_calls HD.out.one.repo HBA.out.2.1).mono ?_
      rintro e4 w4 ⟨v4, rfl, s4, hB4, -⟩
      have HD4 := Lib.hid (HD.out.below hB4)
      have s4' := s4
      obtain ⟨a4, c4, rfl, hn4, hm4, hc4⟩ := blocks_form s4'
      have H4 := Lib.hid (And.intro (show BlksC w4 a4 (blocks 0 S) from hc4) hB4)
      clear s4 s4' hB4 hc4
      go_wp2_with fail
      refine (blocks_calls HD4.out.two.repo HBA.out.2.2).mono ?_
      rintro e5 w5 ⟨v5, rfl, s5, hB5, -⟩
      have HD5 := Lib.hid (HD4.out.below hB5)
      obtain ⟨a5, c5, rfl, hn5, hm5, hc5⟩ := blocks_form s5
      have H5 := Lib.hid (And.intro (show BlksC w5 a5 (blocks 0 S) from hc5) (And.intro (H4.out.1.below hB5) (H4.out.2.trans (hB5.mono H4.out.2.size))))
      have hlen := HD.out.one.repo.ok.len
      have hbl : (blocks 0 S).length ≤ 1000000 := by rw [blocks_length]; omega
      clear s5 hB5 hc5
      go_wp2_with fail
      refine (eqblocks_calls c4 c5 H5.out.2.1 H5.out.1 hbl hbl).mono ?_
      rintro e6 w6 ⟨rfl, hB6⟩
      have HD6 := Lib.hid (HD5.out.below hB6)
      rw [decide_eq_true rfl]
      have HB6 := Lib.hid (H5.out.2.2.trans (hB6.mono H5.out.2.2.size))
      have hlb : (image n S).length ≤ 1000000000 ∧ 8 ≤ (image n S).length := by
        have := image_length HD.out.one.repo.ok
        rw [HD.out.one.gn] at this
        exact ⟨this.2, this.1⟩
      have HLB := Lib.hid hlb
      clear hB6 hlb hlen hbl
      go_wp2_with fail
      refine (image_calls HD6.out.two.repo HBA.out.2.2).mono ?_
      rintro e7 w7 ⟨v7, rfl, s7, hB7, -⟩
      rw [HD6.out.two.gn] at s7
      obtain ⟨b7, a7, c7, rfl, -, -, hA7⟩ := ublk_form s7 HLB.out.2
      have HD7 := Lib.hid (HD6.out.below hB7)
      have H7 := Lib.hid (And.intro hA7 (HBA.out.1.below (HB6.out.trans (hB7.mono HB6.out.size))))
      clear s7 hA7 hB7
      go_wp2_with fail
      refine (eqbytes_calls c7 cb H7.out.1 H7.out.2 HLB.out.1 HLB.out.1).mono ?_
      rintro e8 w8 ⟨rfl, hB8⟩
      have HD8 := Lib.hid (HD7.out.below hB8)
      rw [decide_eq_true rfl]
      clear hB8
      go_wp2_with fail
      refine (get_full HD8.out.one.repo HBA.out.2.1 5).mono ?_
      rintro e9 w9 ⟨rfl, g9, r9, s9⟩
      have HD9 := Lib.hid (And.intro (HD8.out.step r9 s9) (s9.s.trans HBA.out.2.1))
      clear r9 s9
      go_wp2_with fail
      refine (get_full HD9.out.1.two.repo HBA.out.2.2 5).mono ?_
      rintro e10 w10 ⟨rfl, t10, r10, s10⟩
      have HD10 := Lib.hid (And.intro (HD9.out.1.swap.step r10 s10).swap (And.intro HD9.out.2 (s10.s.trans HBA.out.2.2)))
      obtain ⟨S9, hS9⟩ : ∃ S9, (get S 5).1 = S9 := ⟨_, rfl⟩
      obtain ⟨A9, hA9⟩ : ∃ S9, (get S 5).2.1 = S9 := ⟨_, rfl⟩
      obtain ⟨E9, hE9⟩ : ∃ S9, (get S 5).2.2 = S9 := ⟨_, rfl⟩
      rw [hS9] at HD10
      rw [hA9, hE9]
      clear r10 s10 HD9 hS9 hA9 hE9
      go_wp2_with fail
      have hlb9 : (image n S9).length ≤ 1000000000 ∧ 8 ≤ (image n S9).length := by
        have := image_length HD10.out.1.one.repo.ok
        rw [HD10.out.1.one.gn] at this
        exact ⟨this.2, this.1⟩
      have HLB9 := Lib.hid hlb9
      clear hlb9
      refine (image_calls HD10.out.1.one.repo HD10.out.2.1).mono ?_
      rintro e11 w11 ⟨v11, rfl, s11, hB11, -⟩
      rw [HD10.out.1.one.gn] at s11
      obtain ⟨b11, a11, c11, rfl, -, -, hA11⟩ := ublk_form s11 HLB9.out.2
      have HD11 := Lib.hid (HD10.out.1.below hB11)
      have H11 := Lib.hid hA11
      clear s11 hA11 hB11
      go_wp2_with fail
      refine (image_calls HD11.out.two.repo HD10.out.2.2).mono ?_
      rintro e12 w12 ⟨v12, rfl, s12, hB12, -⟩
      rw [HD11.out.two.gn] at s12
      obtain ⟨b12, a12, c12, rfl, -, -, hA12⟩ := ublk_form s12 HLB9.out.2
      have HD12 := Lib.hid (HD11.out.below hB12)
      have H12 := Lib.hid (And.intro (H11.out.below hB12) hA12)
      clear s12 hA12 hB12
      go_wp2_with fail
      refine (eqbytes_calls c11 c12 H12.out.1 H12.out.2 HLB9.out.1 HLB9.out.1).mono ?_
      rintro e13 w13 ⟨rfl, hB13⟩
      have HO := Lib.hid (HD12.out.below hB13).one.old
      rw [decide_eq_true rfl]
      clear hB13
      go_wp2_with fail
      refine (awake_calls w13).mono ?_
      rintro e14 w14 ⟨rfl, o14⟩
      go_wp2
      go_ret
      exact ⟨by simp, HO.out.then_ o14⟩

set_option maxRecDepth 100000 in
set_option maxHeartbeats 1000000 in
theorem back_all (w0 : World) (n : Int) (l : List Act4) (a : Option Addr) (cap : Nat) (hin : AIn w0 a l) (hwf : ∀ p ∈ l, p.wf) :
    Calls Try.prog 9 #[.int .i64 n, .slice a l.length cap] w0 fun e w' => e = .returned (.bool true) ∧ Old w0 w' := by
  by_cases h2 : l.length ≤ 60
  · have q2 : decide ((60 : Int) < (l.length : Int)) = false := by simp; omega
    have q3 : decide (60 < l.length) = false := by simp; omega
    by_cases h3 : 4 ≤ n ∧ n ≤ 32000 ∧ n % 2 = 0
    · by_cases h1 : n ≤ 2000
      · obtain ⟨m, rfl⟩ := Int.eq_ofNat_of_zero_le (by omega : 0 ≤ n)
        exact back_good w0 m (by omega) (by omega) (by omega) l a cap h2 hin hwf
      · have q1 : decide ((2000 : Int) < n) = true := by simp; omega
        have q4 : decide (n ≤ 32000) = true := by simp; omega
        clear hin hwf h1 h3
        go_enter Try.func9, Try.ntmps9
        go_wp2_with fail
        refine (awake_calls w0).mono ?_
        rintro e6 w6 ⟨rfl, o6⟩
        go_wp2
        go_ret
        exact ⟨rfl, o6⟩
    · have hb := Lib.hid (new_bad n h3 w0)
      by_cases h1 : n ≤ 2000
      · have q1 : decide ((2000 : Int) < n) = false := by simp; omega
        clear hin hwf h3
        go_enter Try.func9, Try.ntmps9
        go_wp2_with fail
        refine hb.out.mono ?_
        rintro e1 w1 ⟨rfl, rfl⟩
        go_wp2_with fail
        refine (awake_calls w1).mono ?_
        rintro e6 w6 ⟨rfl, o6⟩
        go_wp2
        go_ret
        exact ⟨rfl, o6⟩
      · have q1 : decide ((2000 : Int) < n) = true := by simp; omega
        by_cases h4 : n ≤ 32000
        · have q4 : decide (n ≤ 32000) = true := by simp; omega
          clear hin hwf h1 h3
          go_enter Try.func9, Try.ntmps9
          go_wp2_with fail
          refine (awake_calls w0).mono ?_
          rintro e6 w6 ⟨rfl, o6⟩
          go_wp2
          go_ret
          exact ⟨rfl, o6⟩
        · have q4 : decide (n ≤ 32000) = false := by simp; omega
          clear hin hwf h1 h3
          go_enter Try.func9, Try.ntmps9
          go_wp2_with fail
          refine hb.out.mono ?_
          rintro e1 w1 ⟨rfl, rfl⟩
          go_wp2_with fail
          refine (awake_calls w1).mono ?_
          rintro e6 w6 ⟨rfl, o6⟩
          go_wp2
          go_ret
          exact ⟨rfl, o6⟩
  · have q2 : decide ((60 : Int) < (l.length : Int)) = true := by simp; omega
    have q3 : decide (60 < l.length) = true := by simp; omega
    clear hin hwf
    go_enter Try.func9, Try.ntmps9
    go_wp2_with fail
    refine (awake_calls w0).mono ?_
    rintro e6 w6 ⟨rfl, o6⟩
    go_wp2
    go_ret
    exact ⟨rfl, o6⟩
end Go.Sto
