/-
  TopRounds, walked.
-/
import Derived.Test.YtcfegaclbkggpaaRndIn
import Derived.Deep.CutRange
import Derived.Deep.LoopGhost
namespace Go.Rnd
open Go.Own Go.RowKit Go.Proofs

theorem turn_drewN {S : Nat → Prop} {a b : World} (h : Turn S a b) (n : Nat) : Turn S a (b.drewN n) := ⟨h.os, h.tape, h.output, h.size, h.block⟩

theorem steps_le {s k P : Nat} (h : s ≤ 3 * (k * P) + P + k) (hP : P ≤ 30) (hk : k ≤ 8) : (s : Int) ≤ wrap64 (10 * ((P : Int) + 2) * ((k : Int) + 1)) := by
  have e : 10 * ((P : Int) + 2) * ((k : Int) + 1) = ((10 * (P + 2) * (k + 1) : Nat) : Int) := by push_cast; rfl
  have h1 : 10 * (P + 2) * (k + 1) ≤ 10 * (30 + 2) * (8 + 1) := Nat.mul_le_mul (Nat.mul_le_mul_left _ (by omega)) (by omega)
  have h2 := bound_steps (n := k) (P := P)
  rw [e, IntWalk.wrap64_in _ (by omega)]
  omega

set_option maxRecDepth 100000 in
set_option maxHeartbeats 4000000 in
theorem top_good (w0 : World) (l : List Int) (a : Option Addr) (cap : Nat) (hl2 : 2 ≤ l.length) (hl8 : l.length ≤ 8) (P : Nat) (hP : P ≤ 30) (hin : IntsC w0 a l) :
    Calls Try.prog 3 #[.slice a l.length cap, .int .i64 P] w0 fun e w' => e = .returned (.bool true) ∧ Turn (fun _ => False) w0 w' := by
  obtain ⟨n, hn⟩ : ∃ n, l.length = n := ⟨_, rfl⟩
  rw [hn] at hl2 hl8 ⊢
  have H := Lib.hid (And.intro hin hn)
  clear hin hn
  have q1 : decide ((n : Int) < 2) = false := decide_eq_false (by omega)
  have q2 : decide ((8 : Int) < (n : Int)) = false := decide_eq_false (by omega)
  have q3 : decide ((P : Int) < 0) = false := decide_eq_false (by omega)
  have q4 : decide ((30 : Int) < (P : Int)) = false := decide_eq_false (by omega)
  go_enter Try.func3, Try.ntmps3
  go_wp2_with fail
  refine (new_calls w0).mono ?_
  rintro e1 w1 ⟨g1, rfl, hk1, R1, T1, ho1⟩
  obtain ⟨kb, hkb⟩ : ∃ kb, g1.k = kb := ⟨_, rfl⟩
  rw [hkb]
  have HN := Lib.hid (And.intro R1 (And.intro T1 (And.intro ho1 hkb)))
  clear R1 T1 ho1 hk1 hkb q1 q2 q3 q4
  go_wp2_with fail
  go_loopg [6] (n) (fun gk iv wr => ∃ i : Nat, gk + i = n ∧ iv = .int .i64 i ∧ Fine l i ∧ Turn (fun _ => False) w1 wr)
  case atStart => exact ⟨0, rfl, rfl, ⟨fun _ h => by omega, fun _ _ h => by omega⟩, Turn.refl _ _⟩
  case round =>
    obtain ⟨i, hk, rfl, hf, hT⟩ := hrel
    have HX := Lib.hid (And.intro hf (And.intro hT hk))
    clear hf hT
    by_cases hlt : i < n
    · obtain ⟨x, hx⟩ : ∃ x, l[i]? = some x := ⟨_, List.getElem?_eq_getElem (by have := H.out.2; omega)⟩
      have hc := (H.out.1.turn (HN.out.2.1.trans HX.out.2.1)) i x hx
      obtain ⟨b, off, rfl, cx⟩ := hc
      have HQ := Lib.hid hx
      have q1 : decide ((i : Int) < (n : Int)) = true := decide_eq_true (by omega)
      have q2 : decide ((n : Int) ≤ (i : Int)) = false := decide_eq_false (by omega)
      have q3 : decide (n ≤ i) = false := decide_eq_false (by omega)
      generalize hG : gk = GK at *
      clear hG hx
      have HK := Lib.hid hk
      clear hk
      by_cases h1 : x < 1
      · have q4 : decide (x < 1) = true := decide_eq_true h1
        go_wp2_with fail
        refine (awake_calls wr).mono ?_
        rintro e5 w5 ⟨rfl, T5⟩
        have HT5 := Lib.hid T5
        clear T5
        go_wp2_with fail
        go_ret
        exact ⟨rfl, (HN.out.2.1.trans HX.out.2.1).trans HT5.out⟩
      · have q4 : decide (x < 1) = false := decide_eq_false h1
        by_cases h2 : 1000 < x
        · have q5 : decide (1000 < x) = true := decide_eq_true h2
          go_wp2_with fail
          refine (awake_calls wr).mono ?_
          rintro e5 w5 ⟨rfl, T5⟩
          have HT5 := Lib.hid T5
          clear T5
          go_wp2_with fail
          go_ret
          exact ⟨rfl, (HN.out.2.1.trans HX.out.2.1).trans HT5.out⟩
        · have q5 : decide (1000 < x) = false := decide_eq_false h2
          have HXB := Lib.hid (And.intro h1 h2)
          clear h1 h2
          go_wp2_with fail
          go_loopg [7] (i) (fun gk2 jv wr2 => ∃ j : Nat, gk2 + j = i ∧ jv = .int .i64 j ∧ (∀ k, k < j → ∀ q, l[k]? = some q → x ≠ q) ∧ Turn (fun _ => False) w1 wr2)
          case atStart => exact ⟨0, rfl, rfl, fun k h => by omega, HX.out.2.1⟩
          case round =>
            obtain ⟨j, hj, rfl, hne, hT2⟩ := hrel
            have HJ := Lib.hid (And.intro hne (And.intro hT2 hj))
            clear hne hT2
            by_cases hlj : j < i
            · obtain ⟨y, hy⟩ : ∃ y, l[j]? = some y := ⟨_, List.getElem?_eq_getElem (by have := H.out.2; omega)⟩
              have hcx := (H.out.1.turn (HN.out.2.1.trans HJ.out.2.1)) i x HQ.out
              have hcy := (H.out.1.turn (HN.out.2.1.trans HJ.out.2.1)) j y hy
              obtain ⟨b', off', e', cx'⟩ := hcx
              cases e'
              obtain ⟨b', off', e', cy'⟩ := hcy
              cases e'
              have HY := Lib.hid hy
              clear hy cx
              have q6 : decide ((j : Int) < (i : Int)) = true := decide_eq_true (by omega)
              have q7 : decide ((n : Int) ≤ (j : Int)) = false := decide_eq_false (by omega)
              have q8 : decide (n ≤ j) = false := decide_eq_false (by omega)
              have hjn : j < n := by omega
              generalize hG : gk = GJ at *
              clear hG
              have HKJ := Lib.hid hj
              clear hj
              by_cases hxy : x = y
              · have q9 : (x == y) = true := beq_iff_eq.2 hxy
                subst hxy
                go_upto_region 12 with fail
                go_quiet (fail)
                go_wp2_with fail
                refine (awake_calls _).mono ?_
                rintro e5 w5 ⟨rfl, T5⟩
                have HT5 := Lib.hid T5
                clear T5
                go_wp2_with fail
                go_ret
                exact ⟨rfl, (turn_drewN (HN.out.2.1.trans HJ.out.2.1) _).trans HT5.out⟩
              · have q9 : (x == y) = false := beq_eq_false_iff_ne.2 hxy
                have HXY := Lib.hid hxy
                clear hxy
                go_upto_region 12 with fail
                go_quiet (fail)
                go_wp2_with fail
                go_roundg (GJ - 1)
                case measure => have := HKJ.out; omega
                case rel =>
                  refine ⟨j + 1, by have := HKJ.out; omega, by go_num, fun k hk q hq => ?_, turn_drewN HJ.out.2.1 _⟩
                  by_cases e : k = j
                  · subst e
                    have h1 := HY.out
                    rw [h1] at hq
                    cases hq
                    exact HXY.out
                  · exact HJ.out.1 k (by omega) q hq
            · obtain rfl : j = i := by omega
              have q6 : decide ((j : Int) < (j : Int)) = false := decide_eq_false (by omega)
              go_wp2_with fail
              go_roundg (GK - 1)
              case measure => have := HK.out; omega
              case rel =>
                have hxb := HXB.out
                exact ⟨j + 1, by have := HK.out; omega, by go_num, HX.out.1.more HQ.out (by omega) (by omega) HJ.out.1, HJ.out.2.1⟩
    · obtain rfl : i = n := by omega
      have q1 : decide ((i : Int) < (i : Int)) = false := decide_eq_false (by omega)
      have hfine : Fine l l.length := by have h1 := HX.out.1; have h2 := H.out.2; rw [← h2] at h1; exact h1
      have HF := Lib.hid (And.intro hfine (HN.out.2.1.trans HX.out.2.1))
      have hst : ∃ g K, Rep g K wr ∧ Made l 0 K ∧ g.k = kb ∧ ∀ k, k < w0.heap.size → (g.ρ k).1 = 0 := ⟨g1, _, HN.out.1.new HX.out.2.1, Made.start l, HN.out.2.2.2, HN.out.2.2.1⟩
      have HS := Lib.hid hst
      clear hfine hst hk HX HN
      obtain ⟨wa, hwa⟩ : ∃ wa, wr = wa := ⟨_, rfl⟩
      subst hwa
      go_wp2_with fail
      go_loopg [8] (i) (fun gk kv wx => ∃ k : Nat, gk + k = i ∧ kv = .int .i64 k ∧ Turn (fun _ => False) w0 wx ∧ ∃ g K, Rep g K wx ∧ Made l k K ∧ g.k = kb ∧ ∀ k, k < w0.heap.size → (g.ρ k).1 = 0)
      case atStart => exact ⟨0, rfl, rfl, HF.out.2, HS.out⟩
      case round =>
        obtain ⟨k, hk, rfl, hT, g, K, R, hM, hgk, ho⟩ := hrel
        have HX := Lib.hid (And.intro R (And.intro hM (And.intro hgk (And.intro ho (And.intro hT hk)))))
        clear R hM hgk ho hT
        by_cases hlt : k < i
        · obtain ⟨x, hx⟩ : ∃ x, l[k]? = some x := ⟨_, List.getElem?_eq_getElem (by have := H.out.2; omega)⟩
          have hc := (H.out.1.turn HX.out.2.2.2.2.1) k x hx
          obtain ⟨b, off, rfl, cx⟩ := hc
          obtain ⟨x1, x2, xne, M2⟩ := HX.out.2.1.more HF.out.1 hx
          obtain ⟨t, hbt⟩ := best_some K
          have hD := do_create HX.out.1 HX.out.2.1.ok (kb := kb) HX.out.2.2.1 hbt (HX.out.2.1.best hbt) (by have := HX.out.2.1.n; omega) (by have := HX.out.2.1.c; omega) x1 x2 xne
          have hkn : ((K.n + 1 : Nat) : Int) = (k : Int) + 1 := by have := HX.out.2.1.n; omega
          rw [hkn] at hD
          have HQ := Lib.hid (And.intro hD M2)
          have q1 : decide ((k : Int) < (i : Int)) = true := decide_eq_true (by omega)
          have q2 : decide ((i : Int) ≤ (k : Int)) = false := decide_eq_false (by omega)
          have q3 : decide (i ≤ k) = false := decide_eq_false (by omega)
          generalize hG : gk = GK at *
          clear hG hx x1 x2 xne M2 hbt hD hkn
          have HK := Lib.hid hk
          clear hk
          go_wp2_with fail
          refine HQ.out.1.mono ?_
          rintro e6 w6 ⟨rfl, g6, R6, T6⟩
          have hy := young_step HX.out.2.2.2.2.1 HX.out.2.2.2.1 T6
          have M6 := HQ.out.2
          have hkb := T6.k.trans HX.out.2.2.1
          have hB := best_calls R6 M6.ok (by have := M6.n; omega) (by have := M6.n; omega) M6.q hkb
          have HB := Lib.hid (And.intro hB (And.intro R6 (And.intro hy (And.intro M6 hkb))))
          clear R6 T6 hy M6 hkb hB
          go_wp2_with fail
          refine HB.out.1.mono ?_
          rintro e7 w7 ⟨rfl, T7⟩
          have HT7 := Lib.hid T7
          clear T7
          go_wp2_with fail
          go_roundg (GK - 1)
          case measure => have := HK.out; omega
          case rel => exact ⟨k + 1, by have := HK.out; omega, by go_num, HB.out.2.2.1.1.trans HT7.out, g6, _, HB.out.2.1.new HT7.out, HB.out.2.2.2.1, HB.out.2.2.2.2, HB.out.2.2.1.2⟩
        · obtain rfl : k = i := by omega
          have q1 : decide ((k : Int) < (k : Int)) = false := decide_eq_false (by omega)
          have hmk := fun W => make_servers k (by omega) W
          obtain ⟨σ, hsv, hσ⟩ := sv_start HX.out.1 k
          obtain ⟨lb, hlb⟩ : ∃ lb, wr.heap.size = lb := ⟨_, rfl⟩
          obtain ⟨w2, hw2⟩ : ∃ w2, wr.alloc (.cells (svCells k) 34) = w2 := ⟨_, rfl⟩
          have T2 : Turn (fun _ => False) wr w2 := by rw [← hw2]; exact (Turn.refl _ wr).alloc _
          have hI := HX.out.2.1.inv (P := P) hl2
          have hphi := phi_start k P K (fun _ => 0) (fun _ => 0) 0
          have hP8 : k * P ≤ 240 := Nat.le_trans (Nat.mul_le_mul hl8 hP) (by decide)
          have hbig : Big g σ lb k P sv0 K (fun _ => 0) (fun _ => 0) 0 w2 kb :=
            ⟨HX.out.1.new T2, by rw [← hlb, ← hw2]; exact hsv, HX.out.2.1.ok, HX.out.2.2.1, hI, hl8, hP, by have := HX.out.2.1.c; omega, by have := HX.out.2.1.v; omega⟩
          have hyo : ∀ k, k < w0.heap.size → (g.ρ k).1 = 0 ∧ (σ k).1 = 0 := fun b hb => ⟨HX.out.2.2.2.1 b hb, hσ b (by have := HX.out.2.2.2.2.1.size; omega)⟩
          have HB := Lib.hid (And.intro hbig (And.intro hphi (And.intro hyo (HX.out.2.2.2.2.1.trans T2))))
          obtain ⟨G0, hG0⟩ : ∃ G0, phi k P K (fun _ => 0) (fun _ => 0) 0 = G0 := ⟨_, rfl⟩
          have HG0 := Lib.hid hG0
          clear T2 hI hphi hbig hyo hsv hσ hP8 hG0
          go_upto_region 21 with fail
          clear hmk hw2 hlb HX
          go_wp2_with fail
          go_loopg [12] (G0) (fun gk sv wx => ∃ (steps : Nat) (g : Gh) (σ : Tags) (f : Nat → SV) (K : KS) (T S : Nat → Nat) (M : Nat), sv = .int .i64 steps ∧ gk = phi k P K T S M ∧ Big g σ lb k P f K T S M wx kb ∧ steps + gk ≤ 3 * (k * P) + P + k ∧ Turn (fun _ => False) w0 wx ∧ ∀ k, k < w0.heap.size → (g.ρ k).1 = 0 ∧ (σ k).1 = 0)
          case atStart => exact ⟨0, g, σ, _, K, _, _, 0, rfl, HG0.out.symm, HB.out.1, by have := HG0.out; have := HB.out.2.1; omega, HB.out.2.2.2, HB.out.2.2.1⟩
          case round =>
            obtain ⟨steps, g, σ, f, K, T, S, M, rfl, hphi, B, hst, hT, ho⟩ := hrel
            have hBn := B.inv.kn
            obtain ⟨vs, vt, cur, -, -, -, -, -, -, s1, s2, -, d1, d2, -⟩ := B.sv.at (i := 0) (by omega)
            obtain ⟨ua, un, uc, rfl, hul, -⟩ := s2.1.form
            rw [B.inv.took 0 (by omega)] at hul
            obtain rfl : un = T 1 := by simpa using hul.symm
            rw [B.inv.made0] at d2
            simp only [Nat.zero_mul, Nat.zero_add] at d1 d2
            have hTM := B.inv.T_le (t := 1) (by omega) (by omega)
            have hMP := B.inv.mP
            have HX := Lib.hid (And.intro B (And.intro hst (And.intro hT (And.intro ho hphi))))
            clear B hst hT ho hphi s1 s2 hul
            by_cases hgo : T 1 < P ∨ M < P
            · have HG := Lib.hid hgo
              clear hgo hTM hMP
              generalize hG : gk = GK at *
              clear hG
              refine wp_seq_k ?_
              intro _ _
              refine wp_seq_k ?_
              intro _ _
              go_cut [109] from 95 to 145 (fun c wx => c = .bool true ∧ wx = wr)
              case first =>
                have hg := HG.out
                go_wp2_with fail
                all_goals
                  go_meet
                  refine ⟨congrArg Value.bool ?_, rfl⟩
                  first
                    | rfl
                    | (simp; omega)
              case rest =>
                obtain ⟨rfl, rfl⟩ := hcut
                obtain ⟨t, hbt⟩ := best_some K
                have ht1 : 1 ≤ t := by
                  rcases hbt with ⟨h0, hw⟩ | ⟨h1, -⟩
                  · have := HX.out.1.inv.idle hw
                    have := HG.out
                    omega
                  · exact h1
                have hR := running_calls HX.out.1.R HX.out.1.ok HX.out.1.k
                have HR := Lib.hid (And.intro hR (And.intro hbt ht1))
                clear hR hbt ht1 d1 d2
                go_wp2_with fail
                refine HR.out.1.mono ?_
                rintro e5 w5 ⟨t', rfl, hb', T5⟩
                obtain rfl := KS.Best.unique HX.out.1.ok hb' HR.out.2.1
                have B5 : Big g σ lb k P f K T S M w5 kb := ⟨HX.out.1.R.new T5, HX.out.1.sv.new T5, HX.out.1.ok, HX.out.1.k, HX.out.1.inv, HX.out.1.n8, HX.out.1.P30, HX.out.1.c, HX.out.1.v⟩
                have hC := turn_calls B5 hb' HR.out.2.2
                have htn : t' ≤ k := by
                  rcases hb' with ⟨h0, -⟩ | ⟨-, h2, -⟩
                  · have := HR.out.2.2; omega
                  · have := HX.out.1.inv.kn; omega
                have ht1 := HR.out.2.2
                have q1 : decide ((t' : Int) < 1) = false := decide_eq_false (by omega)
                have q2 : decide ((k : Int) < (t' : Int)) = false := decide_eq_false (by omega)
                have HC := Lib.hid (And.intro hC T5)
                have hsb : steps ≤ 1000 := by
                  have h1 := HX.out.2.1
                  have h2 : k * P ≤ 240 := Nat.le_trans (Nat.mul_le_mul hl8 hP) (by decide)
                  omega
                have q3 : (steps : Int) ≤ wrap64 (10 * ((P : Int) + 2) * ((k : Int) + 1)) := steps_le (by have := HX.out.2.1; omega) hP hl8
                clear hC B5 hb' T5
                go_wp2_with fail
                refine HC.out.1.mono ?_
                rintro e6 w6 ⟨rfl, g6, σ6, f6, K6, T6, S6, M6, B6, hphi6, hs6⟩
                have hn6 := B6.inv.kn
                have hT := best_calls B6.R B6.ok (by omega) (by omega) (fun i i1 i2 => by have := B6.q_len i1 (by omega); omega) B6.k
                have HT := Lib.hid (And.intro hT (And.intro B6 (And.intro hphi6 (young_step2 (HX.out.2.2.1.trans HC.out.2) HX.out.2.2.2.1 hs6))))
                clear hT B6 hphi6 hs6
                go_wp2_with fail
                refine HT.out.1.mono ?_
                rintro e7 w7 ⟨rfl, T7⟩
                have B7 : Big g6 σ6 lb k P f6 K6 T6 S6 M6 w7 kb := ⟨HT.out.2.1.R.new T7, HT.out.2.1.sv.new T7, HT.out.2.1.ok, HT.out.2.1.k, HT.out.2.1.inv, HT.out.2.1.n8, HT.out.2.1.P30, HT.out.2.1.c, HT.out.2.1.v⟩
                have HB7 := Lib.hid (And.intro B7 T7)
                clear B7 T7
                go_wp2_with fail
                go_roundg (phi k P K6 T6 S6 M6)
                case measure => have := HX.out.2.2.2.2; have := HT.out.2.2.1; omega
                case rel => exact ⟨steps + 1, g6, σ6, f6, K6, T6, S6, M6, by go_num, rfl, HB7.out.1, by have := HX.out.2.1; have := HX.out.2.2.2.2; have := HT.out.2.2.1; omega, HT.out.2.2.2.1.trans HB7.out.2, HT.out.2.2.2.2⟩
            · have hT1 : P ≤ T 1 := by omega
              have hM1 : M = P := by omega
              have hall := HX.out.1.inv.all hM1 hT1
              have hT1' : T 1 = P := by omega
              have hy := HX.out.2.2.1
              have HE := Lib.hid (And.intro HX.out.1.sv (And.intro HX.out.1.inv.took (And.intro hall hy)))
              subst hM1
              rw [hT1'] at d1
              obtain ⟨wq, hwq⟩ : ∃ wq, wq = wr := ⟨_, rfl⟩
              subst hwq
              clear hall hy hgo hTM hMP hT1 hT1' HX
              go_wp2_with fail
              go_loopg [14, 15] (k) (fun gk iv jv wx => ∃ i : Nat, gk + i = k ∧ iv = .int .i64 i ∧ wx = wq)
              case atStart => exact ⟨0, rfl, rfl, rfl⟩
              case round =>
                obtain ⟨i, hi, rfl, hw⟩ := hrel
                subst hw
                by_cases hlt : i < k
                · obtain ⟨vs, vt, cur, -, -, -, -, -, -, -, s2, -, c1, -, -⟩ := HE.out.1.at hlt
                  obtain ⟨xa, xn, xc, rfl, hxl, -⟩ := s2.1.form
                  have htook := HE.out.2.1 i hlt
                  rw [HE.out.2.2.1 (i + 1) (by omega) (by omega)] at htook
                  rw [htook] at hxl s2
                  obtain rfl : xn = M := by simpa using hxl.symm
                  have HT := Lib.hid s2.1
                  have q1 : decide ((i : Int) < (k : Int)) = true := decide_eq_true (by omega)
                  have q2 : decide ((k : Int) ≤ (i : Int)) = false := decide_eq_false (by omega)
                  have q3 : decide (k ≤ i) = false := decide_eq_false (by omega)
                  generalize hG : gk = GK at *
                  clear hG s2 htook hxl
                  have HI := Lib.hid hi
                  clear hi
                  go_wp2_with fail
                  obtain ⟨wv, hwv⟩ : ∃ wv, wv = wr := ⟨_, rfl⟩
                  subst hwv
                  go_loopg [15] (xn) (fun gk2 jv wx => ∃ j : Nat, gk2 + j = xn ∧ jv = .int .i64 j ∧ wx = wv)
                  case atStart => exact ⟨0, rfl, rfl, rfl⟩
                  case round =>
                    obtain ⟨j, hj, rfl, hw⟩ := hrel
                    subst hw
                    by_cases hlj : j < xn
                    · obtain ⟨b, off, rfl⟩ := HT.out.addr (by omega)
                      have cj : wr.cell? ⟨b, off + j, none⟩ = some (.int .i64 (j + 1 : Nat)) := HT.out.cells j _ (by
                        simp only [nums, List.getElem?_map]
                        rw [List.getElem?_range' hlj]
                        simp only [Option.map_some]
                        congr 3
                        omega)
                      have q4 : decide ((j : Int) < (xn : Int)) = true := decide_eq_true (by omega)
                      have q5 : decide ((xn : Int) ≤ (j : Int)) = false := decide_eq_false (by omega)
                      have q6 : decide (xn ≤ j) = false := decide_eq_false (by omega)
                      generalize hG : gk = GJ at *
                      clear hG
                      have HJ := Lib.hid hj
                      clear hj
                      go_wp2_with fail
                      go_roundg (GJ - 1)
                      case measure => have := HJ.out; omega
                      case rel => exact ⟨j + 1, by have := HJ.out; omega, by go_num, rfl⟩
                    · obtain rfl : j = xn := by omega
                      have q4 : decide ((j : Int) < (j : Int)) = false := decide_eq_false (by omega)
                      go_wp2_with fail
                      go_roundg (GK - 1)
                      case measure => have := HI.out; omega
                      case rel => exact ⟨i + 1, by have := HI.out; omega, by go_num, rfl⟩
                · obtain rfl : i = k := by omega
                  have q1 : decide ((i : Int) < (i : Int)) = false := decide_eq_false (by omega)
                  go_wp2_with fail
                  refine (awake_calls _).mono ?_
                  rintro e5 w5 ⟨rfl, T5⟩
                  have HT5 := Lib.hid T5
                  clear T5
                  go_wp2_with fail
                  go_ret
                  exact ⟨rfl, HE.out.2.2.2.trans HT5.out⟩

set_option maxRecDepth 100000 in
set_option maxHeartbeats 2000000 in
theorem top_all (w0 : World) (l : List Int) (a : Option Addr) (cap : Nat) (P : Int) (hin : IntsC w0 a l) :
    Calls Try.prog 3 #[.slice a l.length cap, .int .i64 P] w0 fun e w' => e = .returned (.bool true) ∧ Turn (fun _ => False) w0 w' := by
  by_cases h1 : l.length < 2
  · have q1 : decide ((l.length : Int) < 2) = true := decide_eq_true (by omega)
    clear hin
    generalize l.length = n at *
    go_enter Try.func3, Try.ntmps3
    go_wp2_with fail
    go_ret
    exact ⟨rfl, Turn.refl _ _⟩
  · by_cases h2 : 8 < l.length
    · have q1 : decide ((l.length : Int) < 2) = false := decide_eq_false (by omega)
      have q2 : decide ((8 : Int) < (l.length : Int)) = true := decide_eq_true (by omega)
      clear hin
      generalize l.length = n at *
      go_enter Try.func3, Try.ntmps3
      go_wp2_with fail
      go_ret
      exact ⟨rfl, Turn.refl _ _⟩
    · by_cases h3 : P < 0
      · have q1 : decide ((l.length : Int) < 2) = false := decide_eq_false (by omega)
        have q2 : decide ((8 : Int) < (l.length : Int)) = false := decide_eq_false (by omega)
        have q3 : decide (P < 0) = true := decide_eq_true h3
        clear hin
        generalize l.length = n at *
        go_enter Try.func3, Try.ntmps3
        go_wp2_with fail
        go_ret
        exact ⟨rfl, Turn.refl _ _⟩
      · by_cases h4 : 30 < P
        · have q1 : decide ((l.length : Int) < 2) = false := decide_eq_false (by omega)
          have q2 : decide ((8 : Int) < (l.length : Int)) = false := decide_eq_false (by omega)
          have q3 : decide (P < 0) = false := decide_eq_false h3
          have q4 : decide (30 < P) = true := decide_eq_true h4
          clear hin
          generalize l.length = n at *
          go_enter Try.func3, Try.ntmps3
          go_wp2_with fail
          go_ret
          exact ⟨rfl, Turn.refl _ _⟩
        · obtain ⟨p, rfl⟩ := Int.eq_ofNat_of_zero_le (by omega : 0 ≤ P)
          exact top_good w0 l a cap (by omega) (by omega) p (by omega) hin
end Go.Rnd
