/-
  A slice of calls (structs of four ints) that came in.
-/
import Derived.Deep.Slices
import Derived.OpenShut
import Derived.Deep.CutRange
import Derived.Deep.CutBlock
import Derived.Deep.LoopGhost
import Derived.StillTailTactics
import Derived.Test.YtahfoejffibahaaQStoTopMain
import Derived.Test.YtahfoejffibahaaQStoTop
import Derived.Test.YtahfoejffibahaaQStoPure2
import Derived.Test.YtahfoejffibahaaQStoGrow2
import Derived.Test.YtahfoejffibahaaQStoFreeWords
import Derived.Test.YtahfoejffibahaaQStoEq
set_option linter.unusedVariables false

namespace Go.Sto
open Go.Own Go.RowKit Go.Proofs Go.ChangeShapes Go.WideShapes

structure Act4 where
  d : Int
  a : Int
  b : Int
  c : Int

instance : Inhabited Act4 := ⟨⟨0, 0, 0, 0⟩⟩

def Act4.wf (p : Act4) : Prop := (Lit.int .i64 p.d).wf = true ∧ (Lit.int .i64 p.a).wf = true ∧ (Lit.int .i64 p.b).wf = true ∧ (Lit.int .i64 p.c).wf = true

/-- A call's four cells. -/
def A4 (w : World) (b o : Nat) (p : Act4) : Prop :=
  w.cell? ⟨b, o, none⟩ = some (.int .i64 p.d) ∧ w.cell? ⟨b, o + 1, none⟩ = some (.int .i64 p.a) ∧ w.cell? ⟨b, o + 2, none⟩ = some (.int .i64 p.b) ∧ w.cell? ⟨b, o + 3, none⟩ = some (.int .i64 p.c)

def AIn (w : World) (a : Option Addr) (l : List Act4) : Prop :=
  l = [] ∨ ∃ b off, a = some ⟨b, off, none⟩ ∧ ∀ i p, l[i]? = some p → A4 w b (off + i * 4) p

theorem A4.old {w w' : World} {b o : Nat} {p : Act4} (h : A4 w b o p) (ho : ∀ k, k < w.heap.size → w'.heap[k]? = w.heap[k]?) : A4 w' b o p := by
  have hlt := cell_lt h.1
  have e := ho b hlt
  have c : ∀ i, w'.cell? ⟨b, i, none⟩ = w.cell? ⟨b, i, none⟩ := fun i => by simp only [World.cell?, e]
  exact ⟨(c _).trans h.1, (c _).trans h.2.1, (c _).trans h.2.2.1, (c _).trans h.2.2.2⟩

theorem AIn.old {w0 w : World} {a : Option Addr} {l : List Act4} (h : AIn w0 a l) (ho : Old w0 w) : AIn w a l := by
  rcases h with h | ⟨b, off, ha, hc⟩
  · exact .inl h
  · exact .inr ⟨b, off, ha, fun i p hp => (hc i p hp).old fun k hk => ho.block k hk (fun hh => by omega)⟩

set_option maxRecDepth 100000 in
theorem open_acts {H : Type} {enc : TypeId × Value → H} {w : World} {a : Option Addr} {len cap fuel : Nat} {x : DataW H × List MemPlace}
    (h : DataW.trod enc Try.prog w 0 (fun _ => true) true fuel 32 [.slice a len cap] = some x) :
    ∃ l : List Act4, l.length = len ∧ AIn w a l ∧ ∀ p ∈ l, p.wf := by
  have hc4 : Try.prog.cellsOf 37 = 4 := by kernel_rfl
  have hc1 : Try.prog.cellsOf 3 = 1 := by kernel_rfl
  rcases Go.Deep.open_slice Try.underlying32 h with ⟨hcs, -⟩ | ⟨ad, ln, cp, m, n, D, Pl, hcs, hb, hl, hm, hmm, -, hx⟩
  · simp only [List.cons.injEq, Value.slice.injEq] at hcs
    obtain ⟨⟨rfl, rfl, rfl⟩, -⟩ := hcs
    exact ⟨[], rfl, .inl rfl, fun p hp => by cases hp⟩
  · simp only [List.cons.injEq, Value.slice.injEq] at hcs
    obtain ⟨⟨rfl, rfl, rfl⟩, -⟩ := hcs
    rw [if_pos rfl] at hmm
    subst hmm
    have each : ∀ i, i < len → ∃ q : Act4, w.cell? (ad.add (i * 4)) = some (.int .i64 q.d) ∧ w.cell? (ad.add (i * 4 + 1)) = some (.int .i64 q.a) ∧ w.cell? (ad.add (i * 4 + 2)) = some (.int .i64 q.b) ∧ w.cell? (ad.add (i * 4 + 3)) = some (.int .i64 q.c) ∧ q.wf := by
      intro i hi
      obtain ⟨cs', h1, h2⟩ := hx i (by omega)
      rw [hc4] at h1
      obtain ⟨-, hlen, hcell⟩ := World.cells?_some h1
      obtain ⟨xs, k, -, -, -, hxl, hf⟩ := DataW.trod_struct Try.underlying37 h2
      match xs, hxl, cs', hlen with
      | [y0, y1, y2, y3], _, [v0, v1, v2, v3], _ =>
        have g0 := hf 0 _ rfl
        have g1 := hf 1 _ rfl
        have g2 := hf 2 _ rfl
        have g3 := hf 3 _ rfl
        simp [hc1] at g0 g1 g2 g3
        obtain ⟨z0, e0, -, f0⟩ := DataW.trod_int Try.underlying3 g0
        obtain ⟨z1, e1, -, f1⟩ := DataW.trod_int Try.underlying3 g1
        obtain ⟨z2, e2, -, f2⟩ := DataW.trod_int Try.underlying3 g2
        obtain ⟨z3, e3, -, f3⟩ := DataW.trod_int Try.underlying3 g3
        have c0 := hcell 0 (by omega)
        have c1 := hcell 1 (by omega)
        have c2 := hcell 2 (by omega)
        have c3 := hcell 3 (by omega)
        simp only [List.cons.injEq, and_true] at e0 e1 e2 e3
        subst e0; subst e1; subst e2; subst e3
        refine ⟨⟨z0, z1, z2, z3⟩, ?_, ?_, ?_, ?_, f0, f1, f2, f3⟩
        · rw [Go.Deep.add_add] at c0; simpa using c0
        · rw [Go.Deep.add_add] at c1; simpa using c1
        · rw [Go.Deep.add_add] at c2; simpa using c2
        · rw [Go.Deep.add_add] at c3; simpa using c3
    obtain ⟨q, hq⟩ := Go.Deep.choose_lt each
    refine ⟨(List.range len).map q, by simp, ?_, fun p hp => ?_⟩
    · by_cases h0 : len = 0
      · left; simp [h0]
      · right
        have hspot : ad.spot = none := by
          have := (hq 0 (by omega)).1
          simpa [Addr.add] using World.cell?_spot this
        obtain ⟨b, off, sp⟩ := ad
        simp only at hspot
        subst hspot
        refine ⟨b, off, rfl, fun i p hp => ?_⟩
        have hi : i < len := by
          have := (List.getElem?_eq_some_iff.1 hp).1
          simpa using this
        have : p = q i := by simpa [hi] using hp.symm
        subst this
        obtain ⟨h1, h2, h3, h4, -⟩ := hq i hi
        rw [Addr.add_lit] at h1 h2 h3 h4
        exact ⟨h1, by rw [Nat.add_assoc]; exact h2, by rw [Nat.add_assoc]; exact h3, by rw [Nat.add_assoc]; exact h4⟩
    · obtain ⟨i, hi, rfl⟩ := List.mem_map.1 hp
      exact (hq i (by simpa using hi)).2.2.2.2
end Go.Sto

/-
  StoreCovers, walked.
-/
namespace Go.Sto
open Go.Own Go.RowKit Go.Proofs

/-- A store of a law's own. -/
abbrev SI (w0 : World) (n : Nat) (g : Ghost) (S : St) (w : World) : Prop := MI w0 n g S (.slice none 0 0) (.slice none 0 0) [] [] w

theorem si_start {w0 w1 : World} {g : Ghost} {n : Nat} {S : St} (r : Repo g S w1) (hgn : g.n = n) (hB : Below w0.heap.size w0 w1) (ht : ∀ k, k < w0.heap.size → g.ρ k = (0, 0)) : SI w0 n g S w1 :=
  { repo := r, gn := hgn, held := SliceAt.nil _ _ _, marks := SliceAt.nil _ _ _, th := fun b hb => by simp [Value.ownBlock] at hb, tm := fun b hb => by simp [Value.ownBlock] at hb, apart := fun b hb => by simp [Value.ownBlock] at hb,
    old := ⟨hB.os, hB.tape, hB.output, hB.size, fun k hk _ => hB.block k hk⟩, tags := fun k hk => by rw [ht k hk] }

/-- Some store of n words. -/
def Any (w0 : World) (n s : Nat) (w : World) : Prop := ∃ g S, SI w0 n g S w ∧ g.s = s

set_option maxRecDepth 100000 in
set_option maxHeartbeats 4000000 in
theorem covers_good (w0 : World) (n : Nat) (h0 : 4 ≤ n) (h1 : n ≤ 4000) (h2 : n % 2 = 0) (l : List Act4) (a : Option Addr) (cap : Nat) (hl : l.length ≤ 60) (hin : AIn w0 a l) :
    Calls Try.prog 4 #[.int .i64 n, .slice a l.length cap] w0 fun e w' => e = .returned (.bool true) ∧ Old w0 w' := by
  have q1 : decide ((4000 : Int) < (n : Int)) = false := by simp; omega
  have q2 : decide ((60 : Int) < (l.length : Int)) = false := by simp; omega
  have q1' : decide (4000 < n) = false := by simp; omega
  have q2' : decide (60 < l.length) = false := by simp; omega
  have HI := Lib.hid hin
  clear hin
  go_enter Try.func4, Try.ntmps4
  go_wp2_with fail
  refine (new_good n h0 (by omega) h2 w0).mono ?_
  rintro e1 w1 ⟨g1, rfl, hgn, r1, hB1, htag, hk1⟩
  have start : Any w0 n g1.s w1 := ⟨g1, newS n, si_start r1 hgn hB1 htag, rfl⟩
  obtain ⟨s, hs⟩ : ∃ s, g1.s = s := ⟨_, rfl⟩
  rw [hs] at start ⊢
  have HST := Lib.hid start
  clear start r1 hB1 htag hk1 hgn hs
  go_wp2
  go_loopg [7] (l.length) (fun k i wr => k ≤ l.length ∧ i = .int .i64 ((l.length - k : Nat) : Int) ∧ Any w0 n s wr)
  case atStart => exact ⟨Nat.le_refl _, by simp, HST.out⟩
  case round =>
    obtain ⟨hk, rfl, hTI⟩ := hrel
    obtain ⟨j, hj⟩ : ∃ j, l.length - gk = j := ⟨_, rfl⟩
    rw [hj]
    have HJ := Lib.hid hj
    clear hj
    obtain ⟨g, S, hMI, hgs⟩ := hTI
    by_cases hlt : j < l.length
    · obtain ⟨p, hp⟩ : ∃ p, l[j]? = some p := ⟨_, List.getElem?_eq_getElem hlt⟩
      obtain ⟨b, off, rfl, hc⟩ := (HI.out.old hMI.old).resolve_left (by intro e; rw [e] at hlt; simp at hlt)
      obtain ⟨c0, c1, c2, c3⟩ := hc j p hp
      have HM := Lib.hid (And.intro hMI hgs)
      clear hc hMI hgs
      have HC := Lib.hid (And.intro c0 (And.intro c1 (And.intro c2 c3)))
      clear c1 c2 c3
      go_upto_block 2 with fail
      go_cut [] from 64 to 96 (fun wx => Any w0 n s wx)
      case first =>
        obtain ⟨-, c1, c2, c3⟩ := HC.out
        by_cases d0 : p.d = 0
        · rw [d0]
          clear d0
          go_wp2_with fail
          refine (get_full HM.out.1.repo HM.out.2 p.a).mono ?_
          rintro e2 w2 ⟨rfl, g2, r2, s2⟩
          have FIN := Lib.hid (show Any w0 n s w2 from ⟨g2, _, HM.out.1.step r2 s2, s2.s.trans HM.out.2⟩)
          clear r2 s2 c1 c2 c3
          go_wp2_with fail
          go_meet
          exact FIN.out
        · by_cases d1 : p.d = 1
          · rw [d1]
            clear d1 d0
            go_wp2_with fail
            refine (put_calls HM.out.1.repo HM.out.2 p.a).mono ?_
            rintro e2 w2 ⟨rfl, g2, r2, s2⟩
            have FIN := Lib.hid (show Any w0 n s w2 from ⟨g2, _, HM.out.1.step r2 s2, s2.s.trans HM.out.2⟩)
            clear r2 s2 c1 c2 c3
            go_wp2_with fail
            go_meet
            exact FIN.out
          · have e0 : (p.d == 0) = false := beq_eq_false_iff_ne.2 d0
            have e1 : (p.d == 1) = false := beq_eq_false_iff_ne.2 d1
            by_cases d2 : p.d = 2
            · rw [d2]
              clear d0 d1 d2 e0 e1
              go_wp2_with fail
              go_still_tail 11, (by kernel_rfl)
              repeat still_step
              change wpList _ _ _ _ _ wr.drew
              go_wp2_with fail
              refine (grow_calls (HM.out.1.repo.drew) HM.out.2 p.a p.b).mono ?_
              rintro e2 w2 ⟨rfl, g2, r2, s2⟩
              have FIN := Lib.hid (show Any w0 n s w2 from ⟨g2, _, HM.out.1.step r2 ((Step.refl g wr).drew.trans s2), s2.s.trans HM.out.2⟩)
              clear r2 s2 c1 c2 c3
              go_wp2_with fail
              go_meet
              exact FIN.out
            · have e2 : (p.d == 2) = false := beq_eq_false_iff_ne.2 d2
              have FIN := Lib.hid (show Any w0 n s wr from ⟨g, S, HM.out.1, HM.out.2⟩)
              clear d0 d1 d2 c1 c2 c3
              go_wp2_with fail
              go_meet
              exact FIN.out
      case rest =>
        obtain ⟨g3, S3, hM3, hg3⟩ := hcut
        have HM3 := Lib.hid (And.intro hM3 hg3)
        clear hM3 hg3 c0
        go_wp2_with fail
        refine (freewords_calls HM3.out.1.repo HM3.out.2).mono ?_
        rintro e4 w4 ⟨rfl, hB4⟩
        have HM4 := Lib.hid (HM3.out.1.below hB4)
        clear hB4
        go_wp2_with fail
        refine (blocks_calls HM4.out.repo HM3.out.2).mono ?_
        rintro e5 w5 ⟨vB, rfl, hvB, hB5, hoB⟩
        have HM5 := Lib.hid (HM4.out.below hB5)
        obtain ⟨aB, cB, rfl, hb1, hb3, hcell⟩ := blocks_form hvB
        have HB := Lib.hid (And.intro hvB hcell)
        have hlen := HM4.out.repo.ok.len
        rw [blocks_length] at hb1 ⊢
        clear hvB hB5 hoB hcell
        obtain ⟨go, rfl⟩ : ∃ go, go = gk := ⟨_, rfl⟩
        go_wp2
        go_loopg [11, 12] (S3.length) (fun k su i wx => k ≤ S3.length ∧ i = .int .i64 ((S3.length - k : Nat) : Int) ∧ su = .int .i64 ((freeWords (S3.take (S3.length - k)) : Nat) : Int) ∧ wx = w5)
        case atStart => exact ⟨Nat.le_refl _, by simp, by simp [freeWords], rfl⟩
        case round =>
          obtain ⟨hk2, rfl, rfl, rfl⟩ := hrel
          obtain ⟨x, hx⟩ : ∃ x, S3.length - gk = x := ⟨_, rfl⟩
          rw [hx]
          have HX := Lib.hid hx
          clear hx
          by_cases hxl : x < S3.length
          · obtain ⟨c, hc⟩ : ∃ c, S3[x]? = some c := ⟨_, List.getElem?_eq_getElem hxl⟩
            obtain ⟨gb, ob, rfl, -, k1, k2⟩ := HB.out.2 x _ (blocks_get hc)
            simp only at k1 k2
            have hft := freeWords_take hc
            have hcs : c.size ≤ 32000 := Nat.le_trans (size_le (List.mem_of_getElem? hc)) HM4.out.repo.ok.le
            have hfb : freeWords (S3.take x) ≤ 32000 := by
              have h1 := freeWords_le (S3.take x)
              have h2 : sz S3 = sz (S3.take x) + sz (S3.drop x) := by rw [← sz_append, List.take_append_drop]
              have := HM4.out.repo.ok.le
              omega
            rcases hu : c.used with _ | _
            · rw [hu] at k2 hft
              simp only [Bool.not_false] at k2
              have hw : IntKind.i64.wrap (((freeWords (S3.take x) : Nat) : Int) + (c.size : Nat)) = ((freeWords (S3.take x) : Nat) : Int) + (c.size : Nat) := IntWalk.i64_in _ (by omega)
              have hw2 : wrap64 (((freeWords (S3.take x) : Nat) : Int) + (c.size : Nat)) = ((freeWords (S3.take x) : Nat) : Int) + (c.size : Nat) := by unfold wrap64; omega
              obtain ⟨fw, hfw⟩ : ∃ fw, freeWords (S3.take x) = fw := ⟨_, rfl⟩
              rw [hfw] at hft hfb hw hw2 ⊢
              have HF := Lib.hid hft
              clear hft hc hu hfw
              go_wp2_with fail
              go_roundg (gk - 1)
              case measure => have := HX.out; omega
              case rel =>
                have hxx := HX.out
                have e1 : S3.length - (gk - 1) = x + 1 := by omega
                rw [e1, HF.out]
                refine ⟨by omega, by go_num, ?_, rfl⟩
                simp
            · rw [hu] at k2 hft
              simp only [Bool.not_true] at k2
              have HF := Lib.hid hft
              clear hft hc hu
              go_wp2_with fail
              go_roundg (gk - 1)
              case measure => have := HX.out; omega
              case rel =>
                have hxx := HX.out
                have e1 : S3.length - (gk - 1) = x + 1 := by omega
                rw [e1, HF.out]
                exact ⟨by omega, by go_num, by simp, rfl⟩
          · have hxe : S3.length = x := by have := HX.out; omega
            clear HX
            subst hxe
            rw [List.take_length]
            have hcv := covers_calls HM4.out.repo.ok HB.out.1
            rw [blocks_length, HM4.out.gn] at hcv
            have HCV := Lib.hid hcv
            have hz := free_zero (S := S3) HM4.out.repo.ok.good
            have FIN := Lib.hid (show Any w0 n s wr from ⟨g3, S3, HM5.out, HM3.out.2⟩)
            clear hcv
            by_cases hz0 : largest S3 = 0
            · have hz1 := hz.1 hz0
              rw [hz0, hz1]
              clear hz hz0 hz1
              go_wp2_with fail
              refine HCV.out.mono ?_
              rintro e6 w6 ⟨rfl, rfl⟩
              go_wp2_with fail
              go_roundg (go - 1)
              case measure => have := HJ.out; omega
              case rel =>
                have hjj := HJ.out
                have e1 : l.length - (go - 1) = j + 1 := by omega
                rw [e1]
                exact ⟨by omega, by go_num, FIN.out⟩
            · have hz1 : freeWords S3 ≠ 0 := fun e => hz0 (hz.2 e)
              have f1 : (((largest S3 : Nat) : Int) == 0) = false := by simp; omega
              have f2 : (((freeWords S3 : Nat) : Int) == 0) = false := by simp; omega
              have f3 : (largest S3 == 0) = false := by simp; omega
              have f4 : (freeWords S3 == 0) = false := by simp; omega
              have f5 : decide (((largest S3 : Nat) : Int) < 0) = false := by simp
              clear hz
              go_wp2_with fail
              refine HCV.out.mono ?_
              rintro e6 w6 ⟨rfl, rfl⟩
              go_wp2_with fail
              go_roundg (go - 1)
              case measure => have := HJ.out; omega
              case rel =>
                have hjj := HJ.out
                have e1 : l.length - (go - 1) = j + 1 := by omega
                rw [e1]
                exact ⟨by omega, by go_num, FIN.out⟩
    · have HM := Lib.hid (And.intro hMI hgs)
      have hjl : l.length = j := by have := HJ.out; omega
      clear HJ hMI hgs
      subst hjl
      have hle : largest S ≤ 32000 := Nat.le_trans (largest_le S) HM.out.1.repo.ok.le
      have hw : IntKind.i64.wrap (((largest S : Nat) : Int) + 1) = ((largest S : Nat) : Int) + 1 := IntWalk.i64_in _ (by omega)
      have hw2 : wrap64 (((largest S : Nat) : Int) + 1) = ((largest S : Nat) : Int) + 1 := by unfold wrap64; omega
      go_wp2_with fail
      refine (freewords_calls HM.out.1.repo HM.out.2).mono ?_
      rintro e4 w4 ⟨rfl, hB4⟩
      have HM4 := Lib.hid (HM.out.1.below hB4)
      have hg1 := get_full HM4.out.repo HM.out.2 ((largest S : Nat) + 1)
      rw [get_over HM.out.1.repo.ok] at hg1
      have HG1 := Lib.hid hg1
      clear hB4 hg1
      go_wp2_with fail
      refine HG1.out.mono ?_
      rintro e5 w5 ⟨rfl, g5, r5, s5⟩
      have HM5 := Lib.hid (And.intro (HM4.out.step r5 s5) (s5.s.trans HM.out.2))
      clear r5 s5
      by_cases hz : largest S = 0
      · rw [hz]
        have HO := Lib.hid HM5.out.1.old
        clear hz
        go_wp2_with fail
        refine (awake_calls w5).mono ?_
        rintro e6 w6 ⟨rfl, o6⟩
        go_wp2
        go_ret
        exact ⟨rfl, HO.out.then_ o6⟩
      · obtain ⟨S6, A6, hgm, hA6⟩ := get_most HM.out.1.repo.ok hz
        have hg2 := get_full HM5.out.1.repo HM5.out.2 ((largest S : Nat))
        rw [hgm] at hg2
        have HG2 := Lib.hid hg2
        have hzf : (((largest S : Nat) : Int) == 0) = false := by simp; omega
        have hzf2 : (largest S == 0) = false := by simp; omega
        have dA : decide (0 < A6) = true := decide_eq_true hA6
        have hk32 : (largest S : Int) + 1 ≤ 32000 := by
          obtain ⟨b, hb, -, h2⟩ := largest_is hz
          have h3 := size_le hb
          have h4 := HM.out.1.repo.ok.le
          have := (HM.out.1.repo.ok.good b hb).two
          omega
        clear hg2 hgm hz
        go_wp2_with fail
        refine HG2.out.mono ?_
        rintro e6 w6 ⟨rfl, g6, r6, s6⟩
        have HM6 := Lib.hid (And.intro (HM5.out.1.step r6 s6) (s6.s.trans HM5.out.2))
        have hg3 := get_full r6 (s6.s.trans HM5.out.2) ((largest S : Nat) + 1)
        have h02 := get_02 (S := S6) (k := (largest S : Nat) + 1) (by omega) hk32
        obtain ⟨⟨S7, A7, E7⟩, hgt⟩ : ∃ r, get S6 ((largest S : Nat) + 1) = r := ⟨_, rfl⟩
        rw [hgt] at hg3 h02
        simp only at hg3 h02
        have HG3 := Lib.hid hg3
        clear hg3 hgt r6 s6
        go_wp2_with fail
        refine HG3.out.mono ?_
        rintro e7 w7 ⟨rfl, g7, r7, s7⟩
        have HO := Lib.hid (HM6.out.1.step r7 s7).old
        clear r7 s7
        rcases h02 with rfl | rfl
        · go_wp2_with fail
          refine (awake_calls w7).mono ?_
          rintro e8 w8 ⟨rfl, o8⟩
          go_wp2
          go_ret
          exact ⟨rfl, HO.out.then_ o8⟩
        · go_wp2_with fail
          refine (awake_calls w7).mono ?_
          rintro e8 w8 ⟨rfl, o8⟩
          go_wp2
          go_ret
          exact ⟨rfl, HO.out.then_ o8⟩

set_option maxRecDepth 100000 in
set_option maxHeartbeats 1000000 in
theorem covers_all (w0 : World) (n : Int) (l : List Act4) (a : Option Addr) (cap : Nat) (hin : AIn w0 a l) :
    Calls Try.prog 4 #[.int .i64 n, .slice a l.length cap] w0 fun e w' => e = .returned (.bool true) ∧ Old w0 w' := by
  by_cases h2 : l.length ≤ 60
  · have q2 : decide ((60 : Int) < (l.length : Int)) = false := by simp; omega
    have q3 : decide (60 < l.length) = false := by simp; omega
    by_cases h3 : 4 ≤ n ∧ n ≤ 32000 ∧ n % 2 = 0
    · by_cases h1 : n ≤ 4000
      · obtain ⟨m, rfl⟩ := Int.eq_ofNat_of_zero_le (by omega : 0 ≤ n)
        exact covers_good w0 m (by omega) (by omega) (by omega) l a cap h2 hin
      · have q1 : decide ((4000 : Int) < n) = true := by simp; omega
        have q4 : decide (n ≤ 32000) = true := by simp; omega
        clear hin h1 h3
        go_enter Try.func4, Try.ntmps4
        go_wp2_with fail
        refine (awake_calls w0).mono ?_
        rintro e6 w6 ⟨rfl, o6⟩
        go_wp2
        go_ret
        exact ⟨rfl, o6⟩
    · have hb := Lib.hid (new_bad n h3 w0)
      by_cases h5 : n < 4
      · have q5 : decide (n < 4) = true := decide_eq_true h5
        have q1 : decide ((4000 : Int) < n) = false := by simp; omega
        clear hin h3
        go_enter Try.func4, Try.ntmps4
        go_wp2_with fail
        refine hb.out.mono ?_
        rintro e1 w1 ⟨rfl, rfl⟩
        go_wp2_with fail
        refine (awake_calls w1).mono ?_
        rintro e6 w6 ⟨rfl, o6⟩
        go_wp2
        go_ret
        exact ⟨rfl, o6⟩
      · have q5 : decide (n < 4) = false := decide_eq_false h5
        by_cases h4 : n ≤ 32000
        · have q4 : decide (n ≤ 32000) = true := decide_eq_true h4
          have q4' : decide (32000 < n) = false := by simp; omega
          by_cases h1 : n ≤ 4000
          · have q1 : decide ((4000 : Int) < n) = false := by simp; omega
            have h6 : n % 2 = 1 := by omega
            have q6 : (n % 2 == 0) = false := by simp [h6]
            have q7 : (n % 2 != 0) = true := by simp [h6]
            have h0 : 0 ≤ n := by omega
            clear hin h3 h1 h6
            go_enter Try.func4, Try.ntmps4
            go_wp2_with fail
            refine hb.out.mono ?_
            rintro e1 w1 ⟨rfl, rfl⟩
            go_wp2_with fail
            refine (awake_calls w1).mono ?_
            rintro e6 w6 ⟨rfl, o6⟩
            go_wp2
            go_ret
            exact ⟨rfl, o6⟩
          · have q1 : decide ((4000 : Int) < n) = true := by simp; omega
            clear hin h1 h3 h4
            go_enter Try.func4, Try.ntmps4
            go_wp2_with fail
            refine (awake_calls w0).mono ?_
            rintro e6 w6 ⟨rfl, o6⟩
            go_wp2
            go_ret
            exact ⟨rfl, o6⟩
        · have q4 : decide (n ≤ 32000) = false := decide_eq_false h4
          have q4' : decide (32000 < n) = true := by simp; omega
          have q1 : decide ((4000 : Int) < n) = true := by simp; omega
          clear hin h3 h4
          go_enter Try.func4, Try.ntmps4
          go_wp2_with fail
          refine hb.out.mono ?_
          rintro e1 w1 ⟨rfl, rfl⟩
          go_wp2_with fail
          refine (awake_calls w1).mono ?_
          rintro e6 w6 ⟨rfl, o6⟩
          go_wp2
          go_ret
          exact ⟨rfl, o6⟩
  · have q2 : decide ((60 : Int) < (l.length : Int)) = true := by simp; omega
    have q3 : decide (60 < l.length) = true := by simp; omega
    clear hin h2
    go_enter Try.func4, Try.ntmps4
    go_wp2_with fail
    refine (awake_calls w0).mono ?_
    rintro e6 w6 ⟨rfl, o6⟩
    go_wp2
    go_ret
    exact ⟨rfl, o6⟩
end Go.Sto
