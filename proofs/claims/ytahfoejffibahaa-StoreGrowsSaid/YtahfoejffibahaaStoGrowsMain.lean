/-
  StoreGrows, walked.
-/
import Derived.Test.YtahfoejffibahaaStoCovMain
import Derived.Test.YtahfoejffibahaaStoGrowsPure
namespace Go.Sto
open Go.Own Go.RowKit Go.Proofs

theorem Old.of_below {w w' : World} (h : Below w.heap.size w w') : Old w w' := ⟨h.os, h.tape, h.output, h.size, fun k hk _ => h.block k hk⟩

theorem up_wf {i m : Nat} (h : i < m) (hm : m ≤ 32002) : (Lit.int .i64 ((i : Int) + 1)).wf = true ∧ IntKind.i64.wrap ((i : Int) + 1) = (i : Int) + 1 ∧ wrap64 ((i : Int) + 1) = (i : Int) + 1 :=
  ⟨wf_i64 (by omega) (by omega), IntWalk.i64_in _ (by omega), by unfold wrap64; omega⟩

def G1 (w0 : World) (n s : Nat) (a : Int) (m i : Nat) (w : World) : Prop := ∃ g S, SI w0 n g S w ∧ Fill S a m i ∧ g.s = s

def G2 (w0 : World) (n s m : Nat) (E k : Int) (u : Value) (w : World) : Prop := ∃ (c : Int) (v : Nat) (g : Ghost) (S : St), u = .int .i64 c ∧ SI w0 n g S w ∧ g.s = s ∧ Tells S c m v ∧ v ≤ 32002 ∧ (E = 0 → k ≤ v)

theorem fill_got {n : Nat} {S S1 : St} {a k : Int} (h : Ok n S) (hg : get S k = (S1, a, 0)) (k2 : Int) : ∃ m : Nat, m ≤ 32002 ∧ Fill (get S1 k2).1 a m 0 ∧ size (get S1 k2).1 a = ((m : Int), 0) := by
  rcases get_U h k with ⟨e, he, hne⟩ | ⟨T, b, X, Y, hg', hU1, hU2, hT, hb, k0, k1⟩
  · rw [hg] at he; cases he; exact absurd rfl hne
  · rw [hg] at hg'; cases hg'
    have hm : (a, zeros (need k - 1)) ∈ U 0 S1 := by rw [hU2]; simp
    have hm2 := get_mem hT k2 hm
    have hok2 : Ok n (get S1 k2).1 := by
      rcases get_U hT k2 with ⟨e, he, -⟩ | ⟨T2, b2, X2, Y2, hg2, -, -, hT2, -⟩
      · rw [he]; exact hT
      · rw [hg2]; exact hT2
    have hs := size_U hok2 hm2
    have hl : (zeros (need k - 1)).length = need k - 1 := by simp [zeros]
    have e3 : need k = max 2 ((k.toNat + 2) / 2 * 2) := rfl
    refine ⟨need k - 1, by omega, by simpa [Fill, up] using hm2, by rw [hs, hl]⟩

set_option maxRecDepth 100000 in
set_option maxHeartbeats 4000000 in
theorem grows_good (w0 : World) (n : Nat) (h0 : 4 ≤ n) (h1 : n ≤ 2000) (h2 : n % 2 = 0) (l0 l1 l2 k : Int) :
    Calls Try.prog 6 #[.int .i64 n, .agg #[.int .i64 l0, .int .i64 l1, .int .i64 l2], .int .i64 k] w0 fun e w' => e = .returned (.bool true) ∧ Old w0 w' := by
  have q1 : decide ((2000 : Int) < (n : Int)) = false := by simp; omega
  have q1' : decide (2000 < n) = false := by simp; omega
  go_enter Try.func6, Try.ntmps6
  go_wp2_with fail
  obtain ⟨wA, hwA⟩ : ∃ wA, w0.alloc (.cells #[.int .i64 l0, .int .i64 l1, .int .i64 l2] 51) = wA := ⟨_, rfl⟩
  have hBA : Below w0.heap.size w0 wA := by rw [← hwA]; exact (Below.refl _ w0).alloc (Nat.le_refl _) _
  have hbx : wA.heap[w0.heap.size]? = some (.cells #[.int .i64 l0, .int .i64 l1, .int .i64 l2] 51 (0, 0)) := by rw [← hwA]; exact heap_alloc_new w0 _
  have hcell : ∀ w', Old wA w' → w'.cell? ⟨w0.heap.size, 0, none⟩ = some (.int .i64 l0) ∧ w'.cell? ⟨w0.heap.size, 1, none⟩ = some (.int .i64 l1) ∧ w'.cell? ⟨w0.heap.size, 2, none⟩ = some (.int .i64 l2) := fun w' ho => by
    have hb := (ho.block w0.heap.size (heap_lt hbx) (fun hh => by have := heap_lt hbx; omega)).trans hbx
    exact ⟨cell_at hb rfl, cell_at hb rfl, cell_at hb rfl⟩
  have HA := Lib.hid (And.intro hBA hcell)
  rw [hwA]
  clear hwA hBA hbx hcell
  refine (new_good n h0 (by omega) h2 wA).mono ?_
  rintro e1 w1 ⟨g1, rfl, hgn, r1, hB1, htag, hk1⟩
  have hM1 : SI wA n g1 (newS n) w1 := si_start r1 hgn hB1 htag
  obtain ⟨s, hs⟩ : ∃ s, g1.s = s := ⟨_, rfl⟩
  rw [hs]
  have HM1 := Lib.hid (And.intro hM1 hs)
  obtain ⟨c0, -, -⟩ := HA.out.2 w1 hM1.old
  clear hM1 r1 hB1 htag hk1 hgn hs
  have hg1 := get_full HM1.out.1.repo HM1.out.2 l0
  have hfg := fun (S1 : St) (a : Int) (e : get (newS n) l0 = (S1, a, 0)) => fill_got HM1.out.1.repo.ok e l1
  obtain ⟨⟨S1, a, E0⟩, hgt⟩ : ∃ r, get (newS n) l0 = r := ⟨_, rfl⟩
  rw [hgt] at hg1
  simp only at hg1
  have HG1 := Lib.hid (And.intro hg1 (And.intro hfg hgt))
  clear hg1 hfg hgt
  go_wp2_with fail
  refine HG1.out.1.mono ?_
  rintro e2 w2 ⟨rfl, g2, r2, s2⟩
  have HM2 := Lib.hid (And.intro (HM1.out.1.step r2 s2) (s2.s.trans HM1.out.2))
  obtain ⟨-, c1, -⟩ := HA.out.2 w2 HM2.out.1.old
  clear r2 s2 c0
  go_wp2_with fail
  refine (get_full HM2.out.1.repo HM2.out.2 l1).mono ?_
  rintro e3 w3 ⟨rfl, g3, r3, s3⟩
  have HM3 := Lib.hid (And.intro (HM2.out.1.step r3 s3) (s3.s.trans HM2.out.2))
  clear r3 s3 c1
  by_cases hE : E0 = 0
  · subst hE
    obtain ⟨m, hm, hfill, hsz⟩ := HG1.out.2.1 _ _ HG1.out.2.2
    have hsc := size_calls HM3.out.1.repo HM3.out.2 a
    rw [hsz] at hsc
    have HSC := Lib.hid (And.intro hsc hfill)
    clear hsc hsz hfill
    go_wp2_with fail
    refine HSC.out.1.mono ?_
    rintro e4 w4 ⟨rfl, hB4⟩
    have HS := Lib.hid (show G1 wA n s a m 0 w4 from ⟨g3, _, HM3.out.1.below hB4, HSC.out.2, HM3.out.2⟩)
    clear hB4
    go_wp2_with fail
    go_loopg [13] (m) (fun k i wx => k ≤ m ∧ i = .int .i64 ((m - k : Nat) : Int) ∧ G1 wA n s a m (m - k) wx)
    case atStart => exact ⟨Nat.le_refl _, by simp, by simpa using HS.out⟩
    case round =>
      obtain ⟨hk, rfl, g, S, hM, hF, hgs⟩ := hrel
      obtain ⟨x, hx⟩ : ∃ x, m - gk = x := ⟨_, rfl⟩
      rw [hx] at hF ⊢
      have HX := Lib.hid hx
      have HM := Lib.hid (And.intro hM (And.intro hF hgs))
      clear hx hM hF hgs
      by_cases hxm : x < m
      · obtain ⟨f1, f2, f3⟩ := up_wf hxm hm
        obtain ⟨S', hwr, hok, hF'⟩ := fill_write HM.out.1.repo.ok HM.out.2.1 hxm f1
        have hwc := write_calls HM.out.1.repo HM.out.2.2 a x ((x : Int) + 1) f1
        rw [hwr] at hwc
        have HW := Lib.hid (And.intro hwc hF')
        clear hwc hwr hok hF' f1
        go_wp2_with fail
        refine HW.out.1.mono ?_
        rintro e5 w5 ⟨rfl, g5, r5, s5⟩
        have HR := Lib.hid (show G1 wA n s a m (x + 1) w5 from ⟨g5, S', HM.out.1.step r5 s5, HW.out.2, s5.s.trans HM.out.2.2⟩)
        clear r5 s5
        go_wp2_with fail
        go_roundg (gk - 1)
        case measure => have := HX.out; omega
        case rel =>
          have hxx := HX.out
          have e1 : m - (gk - 1) = x + 1 := by omega
          rw [e1]
          exact ⟨by omega, by go_num, HR.out⟩
      · have hxe : m = x := by have := HX.out; omega
        clear HX
        subst hxe
        obtain ⟨-, -, c2⟩ := HA.out.2 wr HM.out.1.old
        have FIN1 := Lib.hid (show G1 wA n s a m m wr from ⟨g, S, HM.out.1, HM.out.2.1, HM.out.2.2⟩)
        go_upto_if 72 with fail
        go_cut [] from 69 to 82 (fun wx => G1 wA n s a m m wx)
        case first =>
          go_wp2_with fail
          · refine (get_full HM.out.1.repo HM.out.2.2 l2).mono ?_
            rintro e5 w5 ⟨rfl, g5, r5, s5⟩
            have HM5 := Lib.hid (And.intro (HM.out.1.step r5 s5) (s5.s.trans HM.out.2.2))
            clear r5 s5 c2
            go_wp2_with fail
            refine (put_calls HM5.out.1.repo HM5.out.2 (get S l2).2.1).mono ?_
            rintro e6 w6 ⟨rfl, g6, r6, s6⟩
            have hU := (get_put_U HM.out.1.repo.ok l2).1
            have HF6 := Lib.hid (show G1 wA n s a m m w6 from ⟨g6, _, HM5.out.1.step r6 s6, by unfold Fill; rw [hU]; exact HM.out.2.1, s6.s.trans HM5.out.2⟩)
            clear r6 s6 hU
            go_wp2_with fail
            go_meet
            exact HF6.out
          · go_meet
            exact FIN1.out
        case rest =>
          obtain ⟨g5, S5, hM5, hF5, hg5⟩ := hcut
          have HM5 := Lib.hid (And.intro hM5 hg5)
          have htg := tells_grown hM5.repo.ok hF5 k
          have hts := tells_same hM5.repo.ok hF5
          have hgc := grow_calls hM5.repo hg5 a k
          obtain ⟨⟨T, c, E⟩, hgt⟩ : ∃ r, grow S5 a k = r := ⟨_, rfl⟩
          rw [hgt] at htg hgc
          simp only at hgc
          have HG := Lib.hid (And.intro hgc (And.intro htg hts))
          clear hM5 hF5 hg5 htg hts hgc hgt c2
          go_upto_if 91 with (go_at_call 20; refine HG.out.1.mono ?_; rintro e6 w6 ⟨rfl, g6, r6, s6⟩; have HM6 := Lib.hid (And.intro (HM5.out.1.step r6 s6) (s6.s.trans HM5.out.2)); clear r6 s6)
          go_cut [16] from 90 to 92 (fun u wx => G2 wA n s m E k u wx)
          case first =>
            rcases HG.out.2.1 with ⟨e, he, hne⟩ | ⟨T', c', v, he, hT, htl, hkv, hv⟩
            · cases he
              have f1 : (E == 0) = false := beq_eq_false_iff_ne.2 hne
              have f2 : (E != 0) = true := by simp [hne]
              have FIN := Lib.hid (show G2 wA n s m E k (.int .i64 a) w6 from ⟨a, m, g6, S5, rfl, HM6.out.1, HM6.out.2, HG.out.2.2, hm, fun e => absurd e hne⟩)
              clear hne
              go_wp2_with fail
              go_meet
              exact FIN.out
            · cases he
              have FIN := Lib.hid (show G2 wA n s m 0 k (.int .i64 c) w6 from ⟨c, v, g6, T, rfl, HM6.out.1, HM6.out.2, htl, hv, fun _ => hkv⟩)
              clear hT htl hkv hv
              go_wp2_with fail
              go_meet
              exact FIN.out
          case rest =>
            obtain ⟨c', v, g7, S7, rfl, hM7, hg7, htl, hv, hkv⟩ := hcut
            have hsc := size_calls hM7.repo hg7 c'
            rw [htl.1] at hsc
            have HM7 := Lib.hid (And.intro hM7 (And.intro hg7 (And.intro htl.2 (And.intro hkv hsc))))
            clear hM7 hg7 htl hkv hsc
            go_upto_region 22 with (go_at_call 24; refine HM7.out.2.2.2.2.mono ?_; rintro e8 w8 ⟨rfl, hB8⟩; have HM8 := Lib.hid (HM7.out.1.below hB8); clear hB8)
            go_cut [109] from 99 to 109 (fun b wx => b = .bool false ∧ wx = w8)
            case first =>
              by_cases hE0 : E = 0
              · have hkv := HM7.out.2.2.2.1 hE0
                have f1 : decide ((v : Int) < k) = false := by simp; omega
                subst hE0
                go_wp2_with fail
                go_meet
                exact ⟨rfl, rfl⟩
              · have f1 : (E == 0) = false := beq_eq_false_iff_ne.2 hE0
                go_wp2_with fail
                go_meet
                exact ⟨rfl, rfl⟩
            case rest =>
              obtain ⟨rfl, rfl⟩ := hcut
              go_wp2
              go_loopg [20] (v) (fun k i wx => k ≤ v ∧ i = .int .i64 ((v - k : Nat) : Int) ∧ SI wA n g7 S7 wx)
              case atStart => exact ⟨Nat.le_refl _, by simp, HM8.out⟩
              case round =>
                obtain ⟨hk2, rfl, hM9⟩ := hrel
                obtain ⟨y, hy⟩ : ∃ y, v - gk = y := ⟨_, rfl⟩
                rw [hy]
                have HY := Lib.hid hy
                have HM9 := Lib.hid hM9
                clear hy hM9
                by_cases hyv : y < v
                · have hrc := read_calls HM9.out.repo HM7.out.2.1 c' y
                  rw [HM7.out.2.2.1 y hyv] at hrc
                  by_cases hym : y < m
                  · rw [if_pos hym] at hrc
                    obtain ⟨-, f2, f3⟩ := up_wf hym hm
                    have HRC := Lib.hid hrc
                    clear hrc
                    go_wp2_with fail
                    refine HRC.out.mono ?_
                    rintro e10 w10 ⟨rfl, hB10⟩
                    have HM10 := Lib.hid (HM9.out.below hB10)
                    clear hB10
                    go_wp2_with fail
                    go_roundg (gk - 1)
                    case measure => have := HY.out; omega
                    case rel =>
                      have hyy := HY.out
                      have e1 : v - (gk - 1) = y + 1 := by omega
                      rw [e1]
                      exact ⟨by omega, by go_num, HM10.out⟩
                  · rw [if_neg hym] at hrc
                    have HRC := Lib.hid hrc
                    clear hrc
                    go_wp2_with fail
                    refine HRC.out.mono ?_
                    rintro e10 w10 ⟨rfl, hB10⟩
                    have HM10 := Lib.hid (HM9.out.below hB10)
                    clear hB10
                    go_wp2_with fail
                    go_roundg (gk - 1)
                    case measure => have := HY.out; omega
                    case rel =>
                      have hyy := HY.out
                      have e1 : v - (gk - 1) = y + 1 := by omega
                      rw [e1]
                      exact ⟨by omega, by go_num, HM10.out⟩
                · have hye : v = y := by have := HY.out; omega
                  clear HY
                  subst hye
                  go_wp2_with fail
                  refine (blocks_calls HM9.out.repo HM7.out.2.1).mono ?_
                  rintro e11 w11 ⟨vB, rfl, hvB, hB11, hoB⟩
                  have HM11 := Lib.hid (HM9.out.below hB11)
                  have hcv := covers_calls HM9.out.repo.ok hvB
                  rw [HM9.out.gn] at hcv
                  have HCV := Lib.hid hcv
                  clear hvB hB11 hoB hcv
                  go_wp2_with fail
                  refine HCV.out.mono ?_
                  rintro e12 w12 ⟨rfl, rfl⟩
                  go_wp2_with fail
                  refine (awake_calls w12).mono ?_
                  rintro e13 w13 ⟨rfl, o13⟩
                  go_wp2
                  go_ret
                  exact ⟨rfl, (Old.of_below HA.out.1).then_ (HM11.out.old.then_ o13)⟩
  · have f1 : (E0 == 0) = false := beq_eq_false_iff_ne.2 hE
    have f2 : (E0 != 0) = true := by simp [hE]
    clear hE
    go_wp2_with fail
    refine (awake_calls w3).mono ?_
    rintro e13 w13 ⟨rfl, o13⟩
    go_wp2
    go_ret
    exact ⟨rfl, (Old.of_below HA.out.1).then_ (HM3.out.1.old.then_ o13)⟩

set_option maxRecDepth 100000 in
theorem grows_all (w0 : World) (n l0 l1 l2 k : Int) :
    Calls Try.prog 6 #[.int .i64 n, .agg #[.int .i64 l0, .int .i64 l1, .int .i64 l2], .int .i64 k] w0 fun e w' => e = .returned (.bool true) ∧ Old w0 w' := by
  by_cases h3 : 4 ≤ n ∧ n ≤ 32000 ∧ n % 2 = 0
  · by_cases h1 : n ≤ 2000
    · obtain ⟨m, rfl⟩ := Int.eq_ofNat_of_zero_le (by omega : 0 ≤ n)
      exact grows_good w0 m (by omega) (by omega) (by omega) l0 l1 l2 k
    · have q1 : decide ((2000 : Int) < n) = true := by simp; omega
      have q4 : decide (n ≤ 32000) = true := by simp; omega
      clear h1 h3
      go_enter Try.func6, Try.ntmps6
      go_wp2_with fail
      refine (awake_calls _).mono ?_
      rintro e6 w6 ⟨rfl, o6⟩
      go_wp2
      go_ret
      exact ⟨rfl, (Old.of_below ((Below.refl _ w0).alloc (Nat.le_refl _) _)).then_ o6⟩
  · have hb := Lib.hid (fun w => new_bad n h3 w)
    by_cases h1 : n ≤ 2000
    · have q1 : decide ((2000 : Int) < n) = false := by simp; omega
      clear h3 h1
      go_enter Try.func6, Try.ntmps6
      go_wp2_with fail
      refine (hb.out _).mono ?_
      rintro e1 w1 ⟨rfl, rfl⟩
      go_wp2_with fail
      refine (awake_calls _).mono ?_
      rintro e6 w6 ⟨rfl, o6⟩
      go_wp2
      go_ret
      exact ⟨rfl, (Old.of_below ((Below.refl _ w0).alloc (Nat.le_refl _) _)).then_ o6⟩
    · have q1 : decide ((2000 : Int) < n) = true := by simp; omega
      by_cases h4 : n ≤ 32000
      · have q4 : decide (n ≤ 32000) = true := by simp; omega
        clear h1 h3 h4
        go_enter Try.func6, Try.ntmps6
        go_wp2_with fail
        refine (awake_calls _).mono ?_
        rintro e6 w6 ⟨rfl, o6⟩
        go_wp2
        go_ret
        exact ⟨rfl, (Old.of_below ((Below.refl _ w0).alloc (Nat.le_refl _) _)).then_ o6⟩
      · have q4 : decide (n ≤ 32000) = false := by simp; omega
        clear h1 h3 h4
        go_enter Try.func6, Try.ntmps6
        go_wp2_with fail
        refine (hb.out _).mono ?_
        rintro e1 w1 ⟨rfl, rfl⟩
        go_wp2_with fail
        refine (awake_calls _).mono ?_
        rintro e6 w6 ⟨rfl, o6⟩
        go_wp2
        go_ret
        exact ⟨rfl, (Old.of_below ((Below.refl _ w0).alloc (Nat.le_refl _) _)).then_ o6⟩
end Go.Sto
