/-
  The reference's Restore, walked whole.
-/
import Derived.Test.YtahfoejffibahaaQStoRestPure
import Derived.Test.YtahfoejffibahaaQStoRest
set_option linter.unusedVariables false

namespace Go.Sto
open Go.Own Go.RowKit Go.Proofs

theorem wrap_small (j : Nat) (h : j ≤ 1000000) : IntKind.i64.wrap (j : Int) = j ∧ wrap64 (j : Int) = j := ⟨IntWalk.i64_in _ (by omega), by unfold wrap64; omega⟩

theorem last_facts (j N : Nat) (h : N = j + 1) (hj : j ≤ 32000) : decide ((0 : Int) < (N : Int)) = true ∧ decide (0 < N) = true ∧ IntKind.i64.wrap ((N : Int) - 1) = (j : Int) ∧ wrap64 ((N : Int) - 1) = (j : Int) ∧ j < N ∧ 0 < N := by
  subst h
  exact ⟨decide_eq_true (by omega), decide_eq_true (by omega), (IntWalk.i64_in _ (by omega)).trans (by omega), by unfold wrap64; omega, by omega, by omega⟩

theorem wrap_sum (z c : Nat) (h : z + c ≤ 1000000) : IntKind.i64.wrap ((z : Int) + (c : Int)) = (z : Int) + (c : Int) ∧ wrap64 ((z : Int) + (c : Int)) = (z : Int) + (c : Int) := ⟨IntWalk.i64_in _ (by omega), by unfold wrap64; omega⟩

theorem rr_rel {w w9 : World} {tb rb ob bb m z go c : Nat} {l1 lj ws : List Int} {L : List RN} {D : St} {v : Value} {u : Bool} (hz : sz D = z) (hzg : (m : Int) - (z : Int) = (go : Int)) (hc : c ≤ go) (h : RRI w tb rb ob bb m l1 L (D ++ [⟨(c : Int).toNat, u, ws⟩]) v lj w9) :
    go - c ≤ m ∧ Value.int .i64 ((z : Int) + (c : Int)) = .int .i64 ((m - (go - c) : Nat) : Int) ∧ ∃ L D v l', sz D + (go - c) = m ∧ RRI w tb rb ob bb m l1 L D v l' w9 := by
  have hs9 : sz (D ++ [⟨(c : Int).toNat, u, ws⟩]) = z + c := by rw [sz_append, hz]; simp [sz]
  have e : (z : Int) + (c : Int) = ((m - (go - c) : Nat) : Int) := by omega
  exact ⟨by omega, by rw [e], _, _, _, _, by rw [hs9]; omega, h⟩

theorem rr_fail {l : List Int} {w w1 : World} {tb : Nat} {er : Int} (hB : Below w.heap.size w w1) (htb : w.heap.size ≤ tb) (hre : restore l = .error er) :
    RRPost l w (.returned (.tuple #[.agg #[.slice none 0 0], .int .i64 er])) (w1.setCell ⟨tb, 0, none⟩ (.slice none 0 0)) := ⟨hB.setCell (p := ⟨tb, 0, none⟩) htb _, .inl ⟨er, hre, rfl⟩⟩

set_option maxRecDepth 100000 in
set_option maxHeartbeats 4000000 in
theorem rrestore_calls {w : World} {bb : Nat} {a : Option Addr} {cap : Nat} {l : List Int} (hb : BytesC w bb a l) (hle : l.length ≤ cap) (hsm : l.length ≤ 1000000000) (hby : ∀ x ∈ l, 0 ≤ x ∧ x < 256) :
    Calls Try.prog 29 #[.slice a l.length cap] w (RRPost l w) := by
  obtain ⟨tb, htb⟩ : ∃ tb, w.heap.size = tb := ⟨_, rfl⟩
  obtain ⟨wA, hwA⟩ : ∃ wA, (w.alloc (.cells #[.slice none 0 0] 59)).alloc (.cells #[.slice a l.length cap, .bool false] 106) = wA := ⟨_, rfl⟩
  have tA : Turn (fun _ => False) w wA := by rw [← hwA]; exact ((Turn.refl _ w).alloc _).alloc _
  have rd0 : RDr (tb + 1) bb a cap false l wA :=
    { blk := by rw [← hwA, ← htb]; simpa using heap_alloc_new (w.alloc (.cells #[.slice none 0 0] 59)) _, bytes := hb.turn (fun _ => id) tA, le := hle, small := hsm, byte := hby }
  have hbb : l ≠ [] → bb < w.heap.size := fun hne => by
    cases l with
    | nil => exact absurd rfl hne
    | cons x l =>
      obtain ⟨off, -, c⟩ := hb 0 x rfl
      exact cell_lt c
  have tcA : wA.heap[tb]? = some (.cells #[.slice none 0 0] 59 (0, 0)) := by rw [← hwA, ← htb, heap_alloc_lt _ _ _ (by simp)]; exact heap_alloc_new w _
  have hzA : wA.heap.size = tb + 2 := by rw [← hwA, ← htb]; simp
  have hnc := rnumber_calls rd0
  have hn1 : (l.length < 8 ∧ num l false = (0, l, true)) ∨ (8 ≤ l.length ∧ num l false = (dec (l.take 8), l.drop 8, false)) := by
    rcases Nat.lt_or_ge l.length 8 with q | q
    · exact .inl ⟨q, num_short _ q⟩
    · exact .inr ⟨q, num_false q⟩
  obtain ⟨⟨n1, l1, s1⟩, hnm⟩ : ∃ r, num l false = r := ⟨_, rfl⟩
  unfold RNumPost at hnc
  rw [hnm] at hnc hn1
  simp only at hnc
  have HC := Lib.hid (And.intro hnc (And.intro hn1 hbb))
  have HA := Lib.hid (And.intro tA (And.intro tcA hzA))
  have HT := Lib.hid htb
  have HWA := Lib.hid hwA
  clear hnc hn1 hbb hnm rd0 hb hle hsm hby tA tcA hzA hwA
  go_enter Try.func29, Try.ntmps29
  clear htb
  go_upto_region 2 with fail
  rw [HWA.out, HT.out]
  go_upto_region 3 with (go_at_call 55; refine HC.out.1.mono ?_; rintro e w1 ⟨rfl, ⟨a1, c1, r1⟩, t1, hz1, k1⟩; have H1 := Lib.hid (And.intro r1 (And.intro t1 hz1)); clear r1 t1 hz1 k1)
  have sc : w1.cell? ⟨tb + 1, 1, none⟩ = some (.bool s1) := H1.out.1.cells.2
  have tc : w1.heap[tb]? = some (.cells #[.slice none 0 0] 59 (0, 0)) := (H1.out.2.1.block tb (by rw [HA.out.2.2]; omega) (by omega)).trans HA.out.2.1
  have tc0 : w1.cell? ⟨tb, 0, none⟩ = some (.slice none 0 0) := cell_at tc (i := 0) rfl
  have tf := frozen_at (i := 0) tc
  have hB1 : Below w.heap.size w w1 := by
    have t := H1.out.2.1
    have ta := HA.out.1
    have := HA.out.2.2
    have := HT.out
    refine Below.trans ⟨ta.os, ta.tape, ta.output, ta.size, fun k hk => ta.block k hk id⟩ ⟨t.os, t.tape, t.output, t.size, fun k hk => t.block k (by omega) (by omega)⟩
  have HB1 := Lib.hid (And.intro hB1 tc)
  clear hB1 tc
  rcases HC.out.2.1 with ⟨hs, he⟩ | ⟨hs, he⟩
  · cases he
    have hre : restore l = .error 7 := by unfold restore; rw [if_pos hs]
    have FIN := Lib.hid (rr_fail HB1.out.1 (by have := HT.out; omega : w.heap.size ≤ tb) hre)
    clear hs hre
    go_wp2_with fail
    (try simp only [Exit.inBlock, Exit.then]); refine bodyPost_ret (res_ct (v := .slice none 0 0) rfl _ _ rfl (World.cell?_setCell_same' _ _ _ (by rw [tc0]; rfl))) rfl ?_
    exact FIN.out
  · cases he
    obtain ⟨n, hn⟩ : ∃ n, dec (l.take 8) = n := ⟨_, rfl⟩
    rw [hn]
    by_cases hval : 4 ≤ n ∧ n ≤ 32000 ∧ n % 2 = 0
    · obtain ⟨m, rfl⟩ := Int.eq_ofNat_of_zero_le (by omega : 0 ≤ n)
      have HNW := Lib.hid (rnew_good m (by omega) (by omega) (by omega) w1)
      have HN := Lib.hid (And.intro hn (And.intro hval hs))
      have hm : m ≤ 32000 := by omega
      clear hval hn hs
      go_upto_region 9 with (go_at_call 32; refine HNW.out.mono ?_; rintro e w2 ⟨rfl, hw2⟩; have H2 := Lib.hid hw2; clear hw2)
      obtain ⟨wS, hwS⟩ : ∃ wS, (w2.alloc (.cells #[.slice (some ⟨w1.heap.size + 2, 0, none⟩) 1 1] 59)).alloc (.cells #[.slice none 0 0] 59) = wS := ⟨_, rfl⟩
      have tS : Turn (fun _ => False) w1 wS := by rw [← hwS, H2.out]; exact ((((((Turn.refl _ w1).alloc _).alloc _).alloc _).alloc _).alloc _)
      obtain ⟨ob, hob⟩ : ∃ ob, w2.heap.size + 1 = ob := ⟨_, rfl⟩
      have oS : wS.heap[ob]? = some (.cells #[.slice none 0 0] 59 (0, 0)) := by
        rw [← hwS, ← hob]
        have := heap_alloc_new (w2.alloc (.cells #[.slice (some ⟨w1.heap.size + 2, 0, none⟩) 1 1] 59)) (.cells #[.slice none 0 0] 59)
        simpa using this
      have hz2 : tb + 2 ≤ w2.heap.size := by rw [H2.out]; have := H1.out.2.2; have := HA.out.2.2; simp; omega
      have start : RRI w tb (tb + 1) ob bb m (l.drop 8) [] [] (.slice none 0 0) (l.drop 8) wS :=
        { k := { rd := ⟨a1, c1, H1.out.1.more tS id (fun _ => id)⟩, bb0 := fun hne => HC.out.2.2 (by rintro rfl; exact hne rfl)
                 old := HB1.out.1.trans ⟨tS.os, tS.tape, tS.output, tS.size, fun k hk => tS.block k (by have := HB1.out.1.size; omega) id⟩
                 tc := (tS.cell (p := ⟨tb, 0, none⟩) id (heap_lt HB1.out.2)).trans tc0, tf := (tS.frozen (p := ⟨tb, 0, none⟩) id (heap_lt HB1.out.2)).trans tf
                 oc := cell_at oS rfl, off := frozen_at oS, ref := SliceAt.nil _ _ _, own := fun k hk => by simp [Value.ownBlock] at hk
                 ord := by have := HT.out; omega }
          shape := rfl, le := by simp [sz], two := by simp
          eq := ⟨m + 1, rfl, by rw [cont_nil]; simp [sz, pvD]⟩ }
      have HST := Lib.hid start
      rw [hwS]
      rw [hob]
      clear start hwS hob hz2 tS oS sc tc0 tf
      go_wp2
      go_loopg [9] (m) (fun k i wx => k ≤ m ∧ i = .int .i64 ((m - k : Nat) : Int) ∧ ∃ L D v l', sz D + k = m ∧ RRI w tb (tb + 1) ob bb m (l.drop 8) L D v l' wx)
      case atStart => exact ⟨Nat.le_refl _, by simp, _, _, _, _, by simp [sz], HST.out⟩
      case round =>
        obtain ⟨hk, rfl, L, D, v, l', hsum, hR⟩ := hrel
        have HR := Lib.hid (And.intro hR hsum)
        have r1 := hR.k.short
        have tc := hR.k.tc
        have tf := hR.k.tf
        have oc := hR.k.oc
        have off := hR.k.off
        have hmk : m - gk = sz D := by omega
        rw [hmk]
        obtain ⟨va, vc, rfl, hvl, -, hcell⟩ := hR.k.ref.form
        have herr : ∀ er, parse (pvD D) ((m : Int) - sz D) l' = .error er → sz D < m → restore l = .error er := fun er hp h0 => by
          rw [restore_of HN.out.2.2 HN.out.1 HN.out.2.1, hR.err h0 hp]
        have HE := Lib.hid (And.intro herr hcell)
        have htw := HT.out
        clear hR hsum hmk herr hcell htw
        by_cases hk0 : 0 < gk
        · have g1 : decide ((sz D : Int) < (m : Int)) = true := by have := HR.out.2; simp; omega
          have g2 : sz D < m := by have := HR.out.2; omega
          have hnc1 := HR.out.1.k.calls
          rcases Nat.lt_or_ge l'.length 8 with q8 | q8
          · have hp : parse (pvD D) ((m : Int) - sz D) l' = .error 7 := by unfold parse; rw [if_pos q8]
            have HRE := Lib.hid (HE.out.1 7 hp g2)
            rw [num_short _ q8] at hnc1
            have HC1 := Lib.hid hnc1
            clear hp q8 hnc1 tc tf oc off r1
            go_wp2_with fail
            refine HC1.out.mono ?_
            rintro e3 w3 ⟨rfl, k3, -, -⟩
            have r3 := k3.short
            have tc3 := k3.tc
            have tf3 := k3.tf
            have FIN := Lib.hid (rr_fail k3.old k3.ord.1 HRE.out)
            clear k3
            go_wp2_with fail
            (try simp only [Exit.inBlock, Exit.then]); refine bodyPost_ret (res_ct (v := .slice none 0 0) rfl _ _ rfl (World.cell?_setCell_same' _ _ _ (by rw [tc3]; rfl))) rfl ?_
            exact FIN.out
          · have hnum : num l' false = (dec (l'.take 8), l'.drop 8, false) := num_false q8
            rw [hnum] at hnc1
            have HC1 := Lib.hid (And.intro hnc1 q8)
            obtain ⟨size, hsize⟩ : ∃ size, dec (l'.take 8) = size := ⟨_, rfl⟩
            have HS := Lib.hid hsize
            rw [hsize] at HC1
            clear hnum hnc1 q8 hsize tc tf oc off r1
            go_wp2_with fail
            refine HC1.out.1.mono ?_
            rintro e3 w3 ⟨rfl, k3, -, -⟩
            have r3 := k3.short
            have tc3 := k3.tc
            have tf3 := k3.tf
            have H3 := Lib.hid k3
            clear k3
            obtain ⟨z, hz⟩ : ∃ z, sz D = z := ⟨_, rfl⟩
            have hzg : (m : Int) - (z : Int) = (gk : Int) := by have := HR.out.2; omega
            have hw : IntKind.i64.wrap ((m : Int) - (z : Int)) = (gk : Int) := (IntWalk.i64_in _ (by omega)).trans hzg
            have hw2 : wrap64 ((m : Int) - (z : Int)) = (gk : Int) := by unfold wrap64; omega
            rw [hz] at g1 g2 ⊢
            have HZ := Lib.hid (And.intro hz hzg)
            clear hz hzg
            by_cases hbad : size < 2 ∨ size % 2 ≠ 0 ∨ (gk : Int) < size
            · have hp : parse (pvD D) ((m : Int) - sz D) l' = .error 3 := by
                unfold parse
                rw [if_neg (by have := HC1.out.2; omega), HS.out, if_pos (by rw [HZ.out.1]; have := HZ.out.2; omega)]
              have HRE := Lib.hid (HE.out.1 3 hp (by rw [HZ.out.1]; exact g2))
              have FIN := Lib.hid (rr_fail H3.out.old H3.out.ord.1 HRE.out)
              clear hp
              by_cases hb1 : size < 2
              · have f1 : decide (size < 2) = true := decide_eq_true hb1
                clear hbad hb1
                go_wp2_with fail
                (try simp only [Exit.inBlock, Exit.then]); refine bodyPost_ret (res_ct (v := .slice none 0 0) rfl _ _ rfl (World.cell?_setCell_same' _ _ _ (by rw [tc3]; rfl))) rfl ?_
                exact FIN.out
              · have f1 : decide (size < 2) = false := decide_eq_false hb1
                have f0 : 0 ≤ size := by omega
                by_cases hb2 : size % 2 ≠ 0
                · have hb3 : size % 2 = 1 := by omega
                  have f2 : (size % 2 == 1) = true := by simp [hb3]
                  clear hbad hb1 hb2 hb3
                  go_wp2_with fail
                  (try simp only [Exit.inBlock, Exit.then]); refine bodyPost_ret (res_ct (v := .slice none 0 0) rfl _ _ rfl (World.cell?_setCell_same' _ _ _ (by rw [tc3]; rfl))) rfl ?_
                  exact FIN.out
                · have hb3 : size % 2 = 0 := by omega
                  have f2 : (size % 2 == 1) = false := by simp [hb3]
                  have f4 : decide ((gk : Int) < size) = true := decide_eq_true (by omega)
                  clear hbad hb1 hb2 hb3
                  go_wp2_with fail
                  (try simp only [Exit.inBlock, Exit.then]); refine bodyPost_ret (res_ct (v := .slice none 0 0) rfl _ _ rfl (World.cell?_setCell_same' _ _ _ (by rw [tc3]; rfl))) rfl ?_
                  exact FIN.out
            · obtain ⟨c, rfl⟩ := Int.eq_ofNat_of_zero_le (by omega : 0 ≤ size)
              have hc2 : 2 ≤ c := by omega
              have hcg : c ≤ gk := by omega
              have hb3 : (c : Int) % 2 = 0 := by omega
              have f1 : decide ((c : Int) < 2) = false := decide_eq_false (by omega)
              have f2 : ((c : Int) % 2 == 1) = false := by simp [hb3]
              have f4 : decide ((gk : Int) < (c : Int)) = false := decide_eq_false (by omega)
              have HBD := Lib.hid hbad
              clear hbad hb3
              obtain ⟨l2, hl2⟩ : ∃ l2, l'.drop 8 = l2 := ⟨_, rfl⟩
              rw [hl2] at H3
              have hps : parse (pvD D) ((m : Int) - sz D) l' = (if l2.length < 8 then .error 7 else
                  if dec (l2.take 8) < 0 ∨ 1 < dec (l2.take 8) ∨ (dec (l2.take 8) ≠ 1 ∧ pvD D = some false) then .error 3 else
                  if dec (l2.take 8) = 1 then
                    if (l2.drop 8).length < 8 * (c - 1) then .error 7 else
                    .ok ((c : Nat), true, nums (c - 1) (l2.drop 8), (l2.drop 8).drop (8 * (c - 1)))
                  else .ok ((c : Nat), false, [], l2.drop 8)) := by
                unfold parse
                rw [if_neg (by have := HC1.out.2; omega), HS.out, if_neg (by rw [HZ.out.1]; have h1 := HZ.out.2; have h2 := HBD.out; omega), hl2, Int.toNat_natCast]
              have HPS := Lib.hid hps
              have hnc2 := H3.out.calls
              clear hps hl2
              rcases Nat.lt_or_ge l2.length 8 with q8 | q8
              · have hp : parse (pvD D) ((m : Int) - sz D) l' = .error 7 := by rw [HPS.out, if_pos q8]
                have HRE := Lib.hid (HE.out.1 7 hp (by rw [HZ.out.1]; exact g2))
                rw [num_short _ q8] at hnc2
                have HC2 := Lib.hid hnc2
                clear hp q8 hnc2 tc3 tf3
                go_wp2_with fail
                refine HC2.out.mono ?_
                rintro e4 w4 ⟨rfl, k4, -, -⟩
                have r4 := k4.short
                have tc4 := k4.tc
                have tf4 := k4.tf
                have FIN := Lib.hid (rr_fail k4.old k4.ord.1 HRE.out)
                clear k4 r3
                go_wp2_with fail
                (try simp only [Exit.inBlock, Exit.then]); refine bodyPost_ret (res_ct (v := .slice none 0 0) rfl _ _ rfl (World.cell?_setCell_same' _ _ _ (by rw [tc4]; rfl))) rfl ?_
                exact FIN.out
              · rw [num_false q8] at hnc2
                obtain ⟨flag, hflag⟩ : ∃ flag, dec (l2.take 8) = flag := ⟨_, rfl⟩
                obtain ⟨l3, hl3⟩ : ∃ l3, l2.drop 8 = l3 := ⟨_, rfl⟩
                have hps := HPS.out
                rw [if_neg (by omega), hflag, hl3] at hps
                rw [hflag, hl3] at hnc2
                have HP2 := Lib.hid hps
                have HC2 := Lib.hid hnc2
                clear hps hnc2 hflag hl3 q8 tc3 tf3 HPS
                go_upto_region 19 with (go_at_call 55; refine HC2.out.mono ?_; rintro e4 w4 ⟨rfl, k4, -, -⟩; have r4 := k4.short; have H4 := Lib.hid k4; clear k4 r3)
                have oc4 := H4.out.oc
                have tc4 := H4.out.tc
                have tf4 := H4.out.tf
                obtain ⟨aq, cq, e4', -, -, hcell4⟩ := H4.out.ref.form
                cases e4'
                have hpv := pvD_of HR.out.1.shape
                by_cases hbad2 : flag < 0 ∨ 1 < flag ∨ (flag ≠ 1 ∧ pvD D = some false)
                · have hp := HP2.out
                  rw [if_pos hbad2] at hp
                  have HRE := Lib.hid (HE.out.1 3 hp (by rw [HZ.out.1]; exact g2))
                  have FIN := Lib.hid (rr_fail H4.out.old H4.out.ord.1 HRE.out)
                  clear hp
                  by_cases hf0 : flag = 0
                  · subst hf0
                    have hp0 : pvD D = some false := by
                      rcases hbad2 with q | q | q
                      · omega
                      · omega
                      · exact q.2
                    rw [hp0] at hpv
                    rcases List.eq_nil_or_concat L with hL | ⟨L0, x, hL⟩
                    · rw [hL] at hpv; simp at hpv
                    · have hLl : L.length = L0.length + 1 := by rw [hL]; simp
                      have hx : L[L0.length]? = some x := by rw [hL]; simp
                      have hxu : x.u = false := by rw [hL] at hpv; simpa using hpv.symm
                      obtain ⟨bq, oq, rfl, -, cu⟩ := hcell4 _ x hx
                      rw [hxu] at cu
                      have HL := Lib.hid hL
                      obtain ⟨j0, hj0⟩ : ∃ j0, L0.length = j0 := ⟨_, rfl⟩
                      rw [hj0] at hLl cu
                      have hj32 : j0 ≤ 32000 := by have h2 := HR.out.1.two; have h3 := HR.out.1.le; have h4 := congrArg List.length HR.out.1.shape; simp only [List.length_map] at h4; omega
                      obtain ⟨N, hN⟩ : ∃ N, L.length = N := ⟨_, rfl⟩
                      rw [hN] at oc4 hLl
                      obtain ⟨f5, f6, f7, f8, f9, f10⟩ := last_facts j0 N hLl hj32
                      clear hj32 hLl hN hj0
                      clear hL hx hxu hpv hp0 hbad2 hcell4
                      go_wp2_with fail
                      (try simp only [Exit.inBlock, Exit.then]); refine bodyPost_ret (res_ct (v := .slice none 0 0) rfl _ _ rfl (World.cell?_setCell_same' _ _ _ (by rw [tc4]; rfl))) rfl ?_
                      exact FIN.out
                  · have e0 : (flag == 0) = false := beq_eq_false_iff_ne.2 hf0
                    have e1 : (flag == 1) = false := by
                      rw [beq_eq_false_iff_ne]
                      rintro rfl
                      rcases hbad2 with q | q | q
                      · omega
                      · omega
                      · exact q.1 rfl
                    have e2 : (flag != 0) = true := by simp [bne, e0]
                    have e3 : (flag != 1) = true := by simp [bne, e1]
                    clear hbad2 hpv hcell4 hf0
                    go_wp2_with fail
                    (try simp only [Exit.inBlock, Exit.then]); refine bodyPost_ret (res_ct (v := .slice none 0 0) rfl _ _ rfl (World.cell?_setCell_same' _ _ _ (by rw [tc4]; rfl))) rfl ?_
                    exact FIN.out
                · have hflag01 : flag = 0 ∨ flag = 1 := by omega
                  have hnp : flag = 0 → pvD D ≠ some false := fun e q => hbad2 (.inr (.inr ⟨by omega, q⟩))
                  have hp := HP2.out
                  rw [if_neg hbad2] at hp
                  have HP3 := Lib.hid hp
                  clear hp
                  obtain ⟨N, hN⟩ : ∃ N, L.length = N := ⟨_, rfl⟩
                  rw [hN] at oc4
                  go_upto_region 20 with fail
                  go_cut [92] from 69 to 92 (fun v wx => v = .bool false ∧ wx = w4)
                  case first =>
                    rcases hflag01 with rfl | rfl
                    · have hp0 := hnp rfl
                      rw [hpv] at hp0
                      rcases List.eq_nil_or_concat L with hL | ⟨L0, x, hL⟩
                      · have hL0 : L.length = 0 := by rw [hL]; rfl
                        rw [hN] at hL0
                        have f5 : decide ((0 : Int) < (N : Int)) = false := decide_eq_false (by omega)
                        have f6 : decide (0 < N) = false := decide_eq_false (by omega)
                        clear hL hL0 hN hpv hp0 hnp hbad2 hcell4
                        go_wp2_with fail
                        go_meet
                        exact ⟨rfl, rfl⟩
                      · have hLl : L.length = L0.length + 1 := by rw [hL]; simp
                        have hx : L[L0.length]? = some x := by rw [hL]; simp
                        have hxu : x.u = true := by rw [hL] at hp0; simpa using hp0
                        obtain ⟨bq, oq, rfl, -, cu⟩ := hcell4 _ x hx
                        rw [hxu] at cu
                        obtain ⟨j0, hj0⟩ : ∃ j0, L0.length = j0 := ⟨_, rfl⟩
                        rw [hj0] at hLl cu
                        have hj32 : j0 ≤ 32000 := by have h2 := HR.out.1.two; have h3 := HR.out.1.le; have h4 := congrArg List.length HR.out.1.shape; simp only [List.length_map] at h4; omega
                        rw [hN] at hLl
                        obtain ⟨f5, f6, f7, f8, f9, f10⟩ := last_facts j0 N hLl hj32
                        clear hj32 hLl hN hj0 hL hx hxu hpv hp0 hnp hbad2 hcell4
                        go_wp2_with fail
                        go_meet
                        exact ⟨rfl, rfl⟩
                    · clear hpv hnp hbad2 hcell4 hN
                      go_wp2_with fail
                      go_meet
                      exact ⟨rfl, rfl⟩
                  case rest =>
                    obtain ⟨rfl, rfl⟩ := hcut
                    have HNN := Lib.hid hN
                    clear hN hbad2 hnp hpv hcell4 oc4 tc4 tf4 r4
                    obtain ⟨u, hu⟩ : ∃ u, (flag == 1) = u := ⟨_, rfl⟩
                    have hu1 : u = true ↔ flag = 1 := by rw [← hu]; simp
                    have HU := Lib.hid (And.intro hu1 hflag01)
                    clear hu1 hflag01
                    go_upto_region 22 with fail
                    go_wp2_with fail
                    rw [make_ints (c : Int) c rfl (by omega)]
                    go_wp2_with fail
                    obtain ⟨w6, hw6⟩ : ∃ w6, (wc.alloc (.cells (icells (zeros c)).toArray 3)).alloc (.cells #[.slice (some ⟨wc.heap.size, 0, none⟩) c c, .bool u] 108) = w6 := ⟨_, rfl⟩
                    rw [hw6]
                    obtain ⟨wb, hwb⟩ : ∃ wb, wc.heap.size = wb := ⟨_, rfl⟩
                    rw [hwb]
                    have hob6 : ob < wb := by rw [← hwb]; exact cell_lt H4.out.oc
                    have k6 : RRK w tb (tb + 1) ob bb L (.slice va L.length vc) false l3 w6 := by rw [← hw6]; exact (H4.out.alloc _).alloc _
                    have wb6 : WB w6 (wb + 1) wb c u (zeros c) := ⟨by rw [← hw6, ← hwb]; simpa using heap_alloc_new (wc.alloc (.cells (icells (zeros c)).toArray 3)) (.cells #[.slice (some ⟨wc.heap.size, 0, none⟩) c c, .bool u] 108), by rw [← hw6, ← hwb, heap_alloc_lt _ _ _ (by simp)]; exact heap_alloc_new wc _, by simp [zeros]⟩
                    have hvo : ∀ k, (Value.slice va L.length vc).ownBlock = some k → k < wb := fun k hk => by rw [← hwb]; exact SliceAt.lt H4.out.ref k hk
                    have K6 := Lib.hid (And.intro k6 (And.intro wb6 hvo))
                    obtain ⟨go, rfl⟩ : ∃ go, go = gk := ⟨_, rfl⟩
                    clear k6 wb6 hw6 hwb hvo
                    go_loopg [14] (c - 1) (fun k i wx => ∃ j : Nat, j + k = c - 1 ∧ i = .int .i64 ((j + 1 : Nat) : Int) ∧ ∃ lj shj X, RRK w tb (tb + 1) ob bb L (.slice va L.length vc) shj lj wx ∧ WB wx (wb + 1) wb c u X ∧ (shj = false → lj = l3.drop (8 * j) ∧ 8 * j ≤ l3.length) ∧ (shj = true → l3.length < 8 * (c - 1)) ∧ (u = false → shj = false ∧ j = 0))
                    case atStart => exact ⟨0, by omega, rfl, l3, false, _, K6.out.1, K6.out.2.1, fun _ => ⟨by simp, by omega⟩, fun e => (by cases e), fun _ => ⟨rfl, rfl⟩⟩
                    case round =>
                      obtain ⟨j, hjk, rfl, lj, shj, X, kj, wbj, hsf, hst, huf⟩ := hrel
                      obtain ⟨x0, x1, xw, xf⟩ := wbj.cell
                      have KJ := Lib.hid (And.intro kj (And.intro wbj (And.intro hsf (And.intro hst huf))))
                      obtain ⟨i, hi⟩ : ∃ i, j + 1 = i := ⟨_, rfl⟩
                      rw [hi]
                      clear kj wbj hsf hst huf
                      by_cases hgo : 0 < gk ∧ u = true
                      · obtain ⟨hg0, rfl⟩ := hgo
                        have hjc : j + 1 < c := by omega
                        have hic : i < c := by omega
                        have g5 : decide ((i : Int) < (c : Int)) = true := decide_eq_true (by omega)
                        obtain ⟨⟨d, l5, sh5⟩, hnm⟩ : ∃ r, num lj shj = r := ⟨_, rfl⟩
                        have hcj := KJ.out.1.drew.calls
                        rw [hnm] at hcj
                        have HCJ := Lib.hid (And.intro hcj hnm)
                        have hne1 : ¬ wb + 1 = tb + 1 := by have := KJ.out.1.ord; omega
                        have hne2 : ¬ wb = tb + 1 := by have := KJ.out.1.ord; omega
                        clear hcj hnm xw xf
                        go_upto_region 26 with fail
                        refine wp_region_planH (aX := ?aX26) [4, 6] [[], [4], [4, 6]] 2 [(0, 0, 0), (0, 1, 1), (1, 0, 0), (1, 1, 1), (2, 0, 0), (2, 1, 1), (3, 0, 0), (4, 0, 1), (5, 1, 1), (6, 1, 2)]
                          [.pointer (some ⟨wb + 1, 0, none⟩), .slice (some ⟨wb, 0, none⟩) c c, .int .i64 (i : Int), .pointer (some ⟨tb + 1, 0, none⟩), undef, .pointer (some ⟨wb, i, none⟩), undef]
                          (StN wr d (fun w' => RRK w tb (tb + 1) ob bb L (.slice va L.length vc) sh5 l5 w' ∧ WB w' (wb + 1) wb c true X) (fun w' => RRK w tb (tb + 1) ob bb L (.slice va L.length vc) sh5 l5 w' ∧ ∃ X', WB w' (wb + 1) wb c true X')) (by kernel_rfl) (by kernel_rfl) rfl ?hX26 (fun _ => undef) ?h026 ?hob26 ?hend26
                        case hX26 => intro ξ; simp only [mixAll, Act.put]; go_simp; rfl
                        case h026 => exact rfl
                        case hob26 =>
                          repeat' (first
                            | exact oblsH_nil
                            | (refine oblsH_cons rfl ?_ ?_)
                            | exact stepH_value rfl rfl (fun _ _ _ => rfl))
                          all_goals first
                            | (refine stepH_value rfl rfl ?_
                               rintro ξ w' h
                               have h' : w' = wr.drew := h
                               subst h'
                               clear h
                               show _ = _
                               go_simp
                               rfl)
                            | (refine stepH_value rfl rfl ?_
                               rintro ξ w' h
                               have x0' := (show WB w' (wb + 1) wb c true X from h.2.2).cell.1
                               clear h
                               show _ = _
                               go_simp
                               rfl)
                            | (refine stepH_call rfl rfl ?_
                               rintro ξ w' h
                               have h'' : w' = wr.drew := h
                               subst h''
                               refine ⟨55, #[.pointer (some ⟨tb + 1, 0, none⟩)], by go_simp, ?_⟩
                               refine HCJ.out.1.mono ?_
                               rintro e w9 ⟨rfl, k9, t9, -⟩
                               exact ⟨_, rfl, by simp [updV], k9, (KJ.out.2.1.turn (T := fun _ => False) ((Turn.refl _ wr).drew) id id).turn t9 hne1 hne2⟩)
                            | (refine stepH_store rfl rfl rfl ?_
                               rintro ξ w' h
                               have hx4 : ξ 4 = .int .i64 d := h.1
                               have hwb' : WB w' (wb + 1) wb c true X := h.2.2
                               obtain ⟨-, -, xw', xf'⟩ := hwb'.cell
                               obtain ⟨z9, hz9⟩ := xw' i hic
                               have xf9 := xf' i
                               have h' : StN wr d (fun w' => RRK w tb (tb + 1) ob bb L (.slice va L.length vc) sh5 l5 w' ∧ WB w' (wb + 1) wb c true X) (fun w' => RRK w tb (tb + 1) ob bb L (.slice va L.length vc) sh5 l5 w' ∧ ∃ X', WB w' (wb + 1) wb c true X') 2 ξ (w'.setCell ⟨wb, i, none⟩ (.int .i64 d)) :=
                                 ⟨h.2.1.more (T := fun k => k = wb) ((Turn.refl (fun k => k = wb) w').setCell (p := ⟨wb, i, none⟩) (fun _ => rfl) _) (fun k _ e => by
                                   have e' : k = wb := e
                                   subst e'
                                   exact ⟨hob6, fun q => by have := K6.out.2.2 k q; omega⟩), _, hwb'.set (by omega) i d⟩
                               refine ⟨_, ?_, h'⟩
                               clear h' h hwb' xw' xf'
                               go_simp)
                        case hend26 =>
                          rintro ξ w9 ⟨k9, X9, wb9⟩
                          have K9 := Lib.hid (And.intro k9 wb9)
                          clear k9 wb9 x0 x1
                          go_wp2_with fail
                          go_roundg (gk - 1)
                          case measure => omega
                          case rel =>
                            obtain ⟨q1, q2⟩ := read_next HCJ.out.2 hjc KJ.out.2.2.1 KJ.out.2.2.2.1
                            exact ⟨j + 1, by omega, by subst hi; go_num, l5, sh5, X9, K9.out.1, K9.out.2, q1, q2, fun e => by cases e⟩
                      · have hpar : (shj = true → parse (pvD D) ((m : Int) - sz D) l' = .error 7) ∧ (shj = false → ∃ ws, parse (pvD D) ((m : Int) - sz D) l' = .ok ((c : Nat), u, ws, lj)) := by
                          rw [HP3.out]
                          obtain ⟨-, -, hsf, hst, huf⟩ := KJ.out
                          cases hue : u with
                          | false =>
                            have hf : ¬ flag = 1 := fun e => by have := HU.out.1.2 e; rw [hue] at this; cases this
                            obtain ⟨s0, j00⟩ := huf hue
                            rw [if_neg hf]
                            refine ⟨fun e => (by rw [s0] at e; cases e), fun e => ⟨[], ?_⟩⟩
                            rw [(hsf e).1, j00]
                            simp
                          | true =>
                            have hf : flag = 1 := HU.out.1.1 hue
                            have hg0 : gk = 0 := by
                              rcases Nat.eq_zero_or_pos gk with q | q
                              · exact q
                              · exact absurd ⟨q, hue⟩ hgo
                            rw [if_pos hf]
                            refine ⟨fun e => by rw [if_pos (hst e)], fun e => ?_⟩
                            obtain ⟨q1, q2⟩ := hsf e
                            have hjj : j = c - 1 := by omega
                            rw [if_neg (by rw [← hjj]; omega), q1, hjj]
                            exact ⟨_, rfl⟩
                        have HPAR := Lib.hid hpar
                        clear hpar
                        rcases Nat.eq_zero_or_pos gk with hgz | hgz
                        · have g5 : decide ((i : Int) < (c : Int)) = false := decide_eq_false (by omega)
                          clear hgo
                          have r7 := KJ.out.1.short
                          have tc7 := KJ.out.1.tc
                          have tf7 := KJ.out.1.tf
                          rcases shj with _ | _
                          · obtain ⟨ws, hpok⟩ := HPAR.out.2 rfl
                            have oc7 := KJ.out.1.oc
                            have hLN : L.length ≤ 32000 := by have h2 := HR.out.1.two; have h3 := HR.out.1.le; have h4 := congrArg List.length HR.out.1.shape; simp only [List.length_map] at h4; omega
                            have HPOK := Lib.hid hpok
                            obtain ⟨w31, w32⟩ := wrap_sum z c (by omega)
                            clear hpok tc7 tf7 xw xf
                            go_wp2_with (at_builtin; refine wpList_append _ rfl _ _ 57 57 rfl 108 2 32 (.agg #[.slice none 0 0, .bool false]) Try.underlying57 (.inr ⟨_, Try.underlying57⟩) elemR (.slice va L.length vc) _ rfl (KJ.out.1.alloc (.cells (rcell ⟨some ⟨wb, 0, none⟩, c, c, u⟩).toArray 108)).ref _ 1 (rcell ⟨some ⟨wb, 0, none⟩, c, c, u⟩) rfl (Src.slice _ _ _ _ rfl (fun j9 u9 hu9 => by rw [Addr.add_lit, Nat.zero_add]; exact cell_at (heap_alloc_new wr _) (by simpa [rcell] using hu9))) (by intro u9 hu9; simp [rcell] at hu9; rcases hu9 with rfl | rfl <;> rfl) (by rw [rcells_length]; simp [rcell]; omega) (by rw [rcells_length]; simp [rcell]; omega) ?_; rintro v8 w8 s8 t8 o8 -; obtain ⟨oc8, of8⟩ := KJ.out.1.at_ob t8; have HRI := Lib.hid (HR.out.1.step (by rw [HZ.out.1]; exact g2) HPOK.out (x := ⟨some ⟨wb, 0, none⟩, c, c, u⟩) (by simp) rfl (KJ.out.1.push t8 s8 o8)); obtain ⟨pa, pn, pc, rfl, -⟩ := s8.form; clear s8 t8 o8)
                            go_roundg (go - c)
                            case measure => exact Nat.sub_lt hk0 (Nat.lt_of_lt_of_le Nat.zero_lt_two hc2)
                            case rel => exact rr_rel HZ.out.1 HZ.out.2 hcg HRI.out
                          · have hp := HPAR.out.1 rfl
                            have HRE := Lib.hid (HE.out.1 7 hp (by rw [HZ.out.1]; exact g2))
                            have FIN := Lib.hid (rr_fail KJ.out.1.old KJ.out.1.ord.1 HRE.out)
                            clear hp xw xf
                            go_wp2_with fail
                            (try simp only [Exit.inBlock, Exit.then]); refine bodyPost_ret (res_ct (v := .slice none 0 0) rfl _ _ rfl (World.cell?_setCell_same' _ _ _ (by rw [tc7]; rfl))) rfl ?_
                            exact FIN.out
                        · have g5 : decide ((i : Int) < (c : Int)) = true := decide_eq_true (by omega)
                          have hu0 : u = false := by
                            cases hue : u with
                            | false => rfl
                            | true => exact absurd ⟨hgz, hue⟩ hgo
                          subst hu0
                          clear hgo
                          have r7 := KJ.out.1.short
                          have tc7 := KJ.out.1.tc
                          have tf7 := KJ.out.1.tf
                          rcases shj with _ | _
                          · obtain ⟨ws, hpok⟩ := HPAR.out.2 rfl
                            have oc7 := KJ.out.1.oc
                            have hLN : L.length ≤ 32000 := by have h2 := HR.out.1.two; have h3 := HR.out.1.le; have h4 := congrArg List.length HR.out.1.shape; simp only [List.length_map] at h4; omega
                            have HPOK := Lib.hid hpok
                            obtain ⟨w31, w32⟩ := wrap_sum z c (by omega)
                            clear hpok tc7 tf7 xw xf
                            go_wp2_with (at_builtin; refine wpList_append _ rfl _ _ 57 57 rfl 108 2 32 (.agg #[.slice none 0 0, .bool false]) Try.underlying57 (.inr ⟨_, Try.underlying57⟩) elemR (.slice va L.length vc) _ rfl (KJ.out.1.alloc (.cells (rcell ⟨some ⟨wb, 0, none⟩, c, c, false⟩).toArray 108)).ref _ 1 (rcell ⟨some ⟨wb, 0, none⟩, c, c, false⟩) rfl (Src.slice _ _ _ _ rfl (fun j9 u9 hu9 => by rw [Addr.add_lit, Nat.zero_add]; exact cell_at (heap_alloc_new wr _) (by simpa [rcell] using hu9))) (by intro u9 hu9; simp [rcell] at hu9; rcases hu9 with rfl | rfl <;> rfl) (by rw [rcells_length]; simp [rcell]; omega) (by rw [rcells_length]; simp [rcell]; omega) ?_; rintro v8 w8 s8 t8 o8 -; obtain ⟨oc8, of8⟩ := KJ.out.1.at_ob t8; have HRI := Lib.hid (HR.out.1.step (by rw [HZ.out.1]; exact g2) HPOK.out (x := ⟨some ⟨wb, 0, none⟩, c, c, false⟩) (by simp) rfl (KJ.out.1.push t8 s8 o8)); obtain ⟨pa, pn, pc, rfl, -⟩ := s8.form; clear s8 t8 o8)
                            go_roundg (go - c)
                            case measure => exact Nat.sub_lt hk0 (Nat.lt_of_lt_of_le Nat.zero_lt_two hc2)
                            case rel => exact rr_rel HZ.out.1 HZ.out.2 hcg HRI.out
                          · have hp := HPAR.out.1 rfl
                            have HRE := Lib.hid (HE.out.1 7 hp (by rw [HZ.out.1]; exact g2))
                            have FIN := Lib.hid (rr_fail KJ.out.1.old KJ.out.1.ord.1 HRE.out)
                            clear hp xw xf
                            go_wp2_with fail
                            (try simp only [Exit.inBlock, Exit.then]); refine bodyPost_ret (res_ct (v := .slice none 0 0) rfl _ _ rfl (World.cell?_setCell_same' _ _ _ (by rw [tc7]; rfl))) rfl ?_
                            exact FIN.out
        · have hk00 : gk = 0 := by omega
          subst hk00
          have g0 : sz D = m := by have := HR.out.2; omega
          have hdn := HR.out.1.done g0
          have hg : decide ((sz D : Int) < (m : Int)) = false := decide_eq_false (by omega)
          have hg2 : decide (sz D < m) = false := decide_eq_false (by omega)
          obtain ⟨aR, cR, r0⟩ := HR.out.1.k.len
          rcases hl0 : l' with _ | ⟨y, l2⟩
          · subst hl0
            have hre : restore l = .ok ((m : Nat), D) := by rw [restore_of HN.out.2.2 HN.out.1 HN.out.2.1, hdn]; rfl
            have hord := HR.out.1.k.ord
            have FIN := Lib.hid (show RRPost l w (.returned (.tuple #[.agg #[.slice va L.length vc], .int .i64 0])) (wr.setCell ⟨tb, 0, none⟩ (.slice va L.length vc)) from
              ⟨HR.out.1.k.old.setCell (p := ⟨tb, 0, none⟩) hord.1 _, .inr ⟨m, D, _, L, hre, rfl, SliceAt.turn HR.out.1.k.ref (S := fun k => k = tb) ((Turn.refl (fun k => k = tb) wr).setCell (p := ⟨tb, 0, none⟩) (fun _ => rfl) _) (fun k hk e => by have e' : k = tb := e; have := HR.out.1.k.own k hk; omega), HR.out.1.shape⟩⟩)
            clear hdn hre hord g0
            go_wp2_with fail
            (try simp only [Exit.inBlock, Exit.then]); refine bodyPost_ret (res_ct (v := .slice va L.length vc) rfl _ _ rfl (World.cell?_setCell_same' _ _ _ (by rw [tc]; rfl))) rfl ?_
            exact FIN.out
          · subst hl0
            have hre : restore l = .error 3 := by rw [restore_of HN.out.2.2 HN.out.1 HN.out.2.1, hdn]; rfl
            have FIN := Lib.hid (rr_fail HR.out.1.k.old HR.out.1.k.ord.1 hre)
            have hp : decide ((0 : Int) < ((y :: l2).length : Nat)) = true := by simp
            have hp2 : decide ((0 : Int) < ((l2.length : Nat) : Int) + 1) = true := decide_eq_true (by omega)
            clear hdn hre g0
            go_wp2_with fail
            (try simp only [Exit.inBlock, Exit.then]); refine bodyPost_ret (res_ct (v := .slice none 0 0) rfl _ _ rfl (World.cell?_setCell_same' _ _ _ (by rw [tc]; rfl))) rfl ?_
            exact FIN.out
    · have HNW := Lib.hid (rnew_bad n hval w1)
      have hre : restore l = .error 1 := by unfold restore; rw [if_neg (by omega), hn, if_pos (fun q => hval q)]
      have HRE := Lib.hid hre
      clear hval hn hs hre
      go_upto_region 6 with (go_at_call 32; refine HNW.out.mono ?_; rintro e w2 ⟨rfl, hB2⟩; have tc2 := (hB2.cell (p := ⟨tb, 0, none⟩) (heap_lt HB1.out.2)).trans tc0; have tf2 := (hB2.frozen (p := ⟨tb, 0, none⟩) (heap_lt HB1.out.2)).trans tf; have H2 := Lib.hid hB2; clear hB2)
      have tc3 : (w2.alloc (.cells #[.slice none 0 0] 59)).cell? ⟨tb, 0, none⟩ = some (.slice none 0 0) := cell_alloc_l _ tc2
      have tf3 : (w2.alloc (.cells #[.slice none 0 0] 59)).frozen? ⟨tb, 0, none⟩ = false := frozen_alloc_l _ tc2 tf2
      have FIN := Lib.hid (rr_fail (((HB1.out.1.trans (H2.out.mono HB1.out.1.size))).alloc (Nat.le_trans HB1.out.1.size H2.out.size) (.cells #[.slice none 0 0] 59)) (by have := HT.out; omega : w.heap.size ≤ tb) HRE.out)
      go_wp2_with fail
      (try simp only [Exit.inBlock, Exit.then]); refine bodyPost_ret (res_ct (v := .slice none 0 0) rfl _ _ rfl (World.cell?_setCell_same' _ _ _ (by rw [tc3]; rfl))) rfl ?_
      exact FIN.out
end Go.Sto
