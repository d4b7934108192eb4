/-
  fresh: the lowest blocks that are not in use; locked and code where all is well.
-/
import Derived.RangeFuncNested
import Derived.RangeFuncBound
import Derived.RangeFuncCalls
import Derived.RangeFuncLeaves
import Derived.RangeFuncFrom
import Derived.Shelf.Abstract
import Derived.Shelf.RegionOpen
import Derived.OwnWalkIn
import Derived.TacticsInMore
import Derived.LoopNIn
import Derived.LoopIn
import Derived.Sort.QuietIn
import Derived.Test.YtipjapijadgihaaGreatDoorQFlrUsed
set_option linter.unusedVariables false

namespace Go.Flr
open Go.Own Go.RowKit Go.Proofs

/-- The free ones among the first i. -/
def freeTo (us : List Bool) : Nat → List Nat
  | 0 => []
  | i + 1 => if us.getD i true = false then freeTo us i ++ [i] else freeTo us i
theorem freeTo_le (us : List Bool) : ∀ i, (freeTo us i).length ≤ i
  | 0 => Nat.le_refl _
  | i + 1 => by
    have := freeTo_le us i
    unfold freeTo
    split
    · rw [List.length_append]; simp; omega
    · omega

section
variable {w0 w w' w1 : World} {d g : Nat} {D : List Bytes} {L : List (Nat × Bytes)} {lv : Value}

def FreshI (w : World) (us : List Bool) (n m gk : Nat) (ov iv : Value) (wr : World) : Prop :=
  ∃ i, gk + i = n ∧ iv = .int .i64 (i : Nat) ∧ Own1 w wr 3 ov (ncells ((freeTo us i).take m))

set_option maxRecDepth 10000 in
set_option maxHeartbeats 4000000 in
theorem fresh_ok (h : DI w0 d g D L lv w) {us : List Bool} (hus : us.length = D.length)
    (hU : ∀ wr, DI w0 d g D L lv wr → Calls Tryz.prog 98 #[pt d] wr fun e w' => ∃ v, e = .returned v ∧ Own1 wr w' 4 v (ucells us))
    {m : Nat} (hm : m ≤ (freeTo us D.length).length) :
    Calls Tryz.prog 58 #[pt d, .int .i64 m] w fun e w' => ∃ v, e = .returned (.tuple #[v, .nilIface]) ∧ Own1 w w' 3 v (ncells ((freeTo us D.length).take m)) := by
  have HU := Lib.hid (hU w h)
  obtain ⟨n, hn⟩ : ∃ n, D.length = n := ⟨_, rfl⟩
  have hn2 : n ≤ 256 := by have := h.hi; omega
  rw [hn] at hus hm ⊢
  have hfl := freeTo_le us n
  have H := Lib.hid (And.intro h (And.intro hus (And.intro hm hfl)))
  have hm2 : m ≤ 256 := by omega
  clear h hus hU hm hfl hn
  go_enter Tryz.func58, Tryz.ntmps58
  go_wp2_with fail
  refine HU.out.mono ?_
  rintro e1 w1 ⟨v, rfl, hO⟩
  obtain ⟨ua, uc, rfl, -, -⟩ := bools_form hO.at_
  rw [ucells_length, H.out.2.1] at hO ⊢
  have HI := Lib.hid (show FreshI w1 us n m n (.slice none 0 0) (.int .i64 0) w1 from ⟨0, rfl, rfl, (by rw [freeTo, List.take_nil]; exact SliceAt.nil _ _ _), fun k hk => by simp [Value.ownBlock] at hk, Turn.refl _ _⟩)
  have HO := Lib.hid hO
  clear hO HU
  go_wp2_with fail
  go_loopg [6, 12] (n) (fun gk ov iv wr => FreshI w1 us n m gk ov iv wr)
  case atStart => exact HI.out
  case round =>
    obtain ⟨i, hgk, rfl, hF⟩ := hrel
    have hT := hF.turn
    obtain ⟨oa, oc, rfl, -, -⟩ := ints_form hF.at_
    rw [ncells_length] at hF ⊢
    obtain ⟨ol, hol⟩ : ∃ ol, ((freeTo us i).take m).length = ol := ⟨_, rfl⟩
    rw [hol] at hF ⊢
    by_cases hi : i < n
    · obtain ⟨ub, uo, rfl⟩ := HO.out.at_.addr (by omega)
      have hil : i < us.length := by rw [H.out.2.1]; exact hi
      have hub := HO.out.at_.lt ub rfl
      have hc : wr.cell? ⟨ub, uo + i, none⟩ = some (.bool us[i]) := by
        rw [hT.cell (p := ⟨ub, uo + i, none⟩) (fun e => e) hub]
        exact HO.out.at_.cells i _ (by unfold ucells; rw [List.getElem?_map, List.getElem?_eq_getElem hil]; rfl)
      have hg : us.getD i true = us[i] := by rw [List.getD_eq_getElem?_getD, List.getElem?_eq_getElem hil]; rfl
      generalize us[i] = x at hc hg
      have hfi := freeTo_le us i
      have holm : ol = min m (freeTo us i).length := by rw [← hol, List.length_take]
      have HM := Lib.hid (And.intro hF (And.intro hT (And.intro hgk (And.intro hol (And.intro hg (And.intro hfi holm))))))
      clear hF hT hgk hol hg hub hil hfi holm
      cases x with
      | true =>
        go_wp2_with fail
        have hgk := HM.out.2.2.1
        have hfr : freeTo us (i + 1) = freeTo us i := by
          have := HM.out.2.2.2.2.1
          rw [freeTo, if_neg (by rw [this]; decide)]
        go_roundg (gk - 1)
        case rel => exact ⟨i + 1, by omega, by rfl, by rw [hfr]; exact HM.out.1⟩
        case measure => omega
      | false =>
        have hol := HM.out.2.2.2.1
        by_cases hlt : ol < m
        · have hcm : ((ol : Int) < (m : Int)) := by omega
          have hE : SliceAt (wr.alloc (.cells #[.int .i64 (i : Nat)] 3)) 3 1 (.slice oa ol oc) (ncells ((freeTo us i).take m)) := HM.out.1.at_.turn ((Turn.refl (fun _ => False) wr).alloc _) (fun _ _ e => e)
          have hS : Src (wr.alloc (.cells #[.int .i64 (i : Nat)] 3)) 1 (.slice (some ⟨wr.heap.size, 0, none⟩) 1 1) 1 [.int .i64 (i : Nat)] := Src.one rfl (heap_alloc_new wr _)
          have HE := Lib.hid (And.intro hE hS)
          have HL := Lib.hid hol
          clear hE hS hol
          go_wp2_with (at_builtin; refine wpList_append _ rfl _ _ 51 51 rfl 3 1 8 (.int .i64 0) Tryz.underlying51 (.inr ⟨_, Tryz.underlying51⟩) elemInt (.slice oa ol oc) _ rfl HE.out.1 _ _ _ rfl HE.out.2 (by intro u hu; simp at hu; subst hu; rfl) (by have := HL.out; rw [ncells_length]; simp only [List.length_cons, List.length_nil]; omega) (by have := HL.out; rw [ncells_length]; simp only [List.length_cons, List.length_nil]; omega) ?_; intro v' w5 hv' ht hw hn; clear hn; obtain ⟨va, vn, vc, rfl, -⟩ := hv'.form; have hF := Lib.hid (And.intro hv' (And.intro ht hw)); clear hv' ht hw)
          have hgk := HM.out.2.2.1
          have hfr : freeTo us (i + 1) = freeTo us i ++ [i] := by
            have := HM.out.2.2.2.2.1
            rw [freeTo, if_pos this]
          have hfl : (freeTo us i).length < m := by have := HM.out.2.2.2.2.2.2; omega
          have e : ncells ((freeTo us i).take m) ++ [.int .i64 (i : Nat)] = ncells ((freeTo us (i + 1)).take m) := by
            rw [hfr, List.take_of_length_le (by omega), List.take_of_length_le (by rw [List.length_append]; simp; omega), ncells_append]; rfl
          have hsn := HM.out.1.snoc ((Turn.refl (fun _ => False) wr).alloc _) hF.out.1 hF.out.2.1 hF.out.2.2
          rw [e] at hsn
          go_roundg (gk - 1)
          case rel => exact ⟨i + 1, by omega, by rfl, hsn⟩
          case measure => omega
        · have hcm : ¬ ((ol : Int) < (m : Int)) := by omega
          clear hol
          go_wp2_with fail
          have hgk := HM.out.2.2.1
          have hfr : freeTo us (i + 1) = freeTo us i ++ [i] := by
            have := HM.out.2.2.2.2.1
            rw [freeTo, if_pos this]
          have hfl : m ≤ (freeTo us i).length := by have := HM.out.2.2.2.2.2.2; omega
          go_roundg (gk - 1)
          case rel => exact ⟨i + 1, by omega, by rfl, by rw [hfr, List.take_append_of_le_length hfl]; exact HM.out.1⟩
          case measure => omega
    · have hin : i = n := by omega
      subst hin
      have hol2 : ol = m := by rw [← hol, List.length_take]; have := H.out.2.2.1; omega
      subst hol2
      have HF := Lib.hid hF
      clear hF hT hol
      go_wp2_with fail
      go_ret2
      have h1 := HO.out.turn
      refine ⟨_, rfl, HF.out.at_, fun k hk => ?_, h1.trans HF.out.turn⟩
      have := HF.out.own k hk
      have := h1.size
      omega
end
end Go.Flr

/-
  slices.Collect(slices.Chunk(data, 123)): the pieces of a slice of bytes.
-/
namespace Go.Flr
open Go.Own Go.RowKit Go.Proofs Go.Shelf
attribute [local go_sem] Oper.semAt_some

/-- The piece number i of a slice of n bytes. -/
def chunkV (b o n i : Nat) : Value := .slice (some ⟨b, o + i * 123, none⟩) (min 123 (n - i * 123)) (min 123 (n - i * 123))

/-- s[lo:hi:hi] -/
theorem run_slice3 (w : World) (b o n c lo m : Nat) (hm : 0 < m) (h : lo + m ≤ n) (hc : n ≤ c) : (Instr.sliceAt 30 (.slice (some ⟨b, o, none⟩) n c) (some (.int .i64 lo)) (some (.int .i64 ((lo : Int) + (m : Int)))) (some (.int .i64 ((lo : Int) + (m : Int))))).run Tryz.prog w = .ok (.slice (some ⟨b, o + lo, none⟩) m m) w := by
  have hu := run_underlying Tryz.underlying30 w
  have hz := Tryz.sizeOf5 w
  have h1 : (lo : Int) + (m : Int) ≤ (c : Int) := by omega
  have h2 : (0 : Int) ≤ (lo : Int) + (m : Int) := by omega
  have h3 : ((lo : Int) + (m : Int)).toNat = lo + m := by omega
  have h4 : (lo : Int) ≤ (lo : Int) + (m : Int) := by omega
  have h5 : ¬ (lo + m = lo) := by omega
  have e : (⟨b, o, none⟩ : Addr).add lo = ⟨b, o + lo, none⟩ := Addr.add_lit _ _ _
  simp [Instr.sliceAt, Instr.slice, Instr.sliceBounds, Instr.sliceBound, asIntOf, hu, hz, h1, h2, h3]
  rw [if_neg (by omega), e]

/-- s[lo:] -/
theorem run_slice1 (w : World) (b o n c lo : Nat) (h : lo < n) (hc : n ≤ c) : (Instr.sliceAt 30 (.slice (some ⟨b, o, none⟩) n c) (some (.int .i64 lo)) none none).run Tryz.prog w = .ok (.slice (some ⟨b, o + lo, none⟩) (n - lo) (c - lo)) w := by
  have hu := run_underlying Tryz.underlying30 w
  have hz := Tryz.sizeOf5 w
  have h1 : (lo : Int) ≤ (n : Int) := by omega
  have h5 : ¬ (c = lo) := by omega
  have e : (⟨b, o, none⟩ : Addr).add lo = ⟨b, o + lo, none⟩ := Addr.add_lit _ _ _
  simp [Instr.sliceAt, Instr.slice, Instr.sliceBounds, Instr.sliceBound, asIntOf, hu, h5, e]
  try omega

theorem below_drewN {B : Nat} {a b : World} (h : Below B a b) (n : Nat) : Below B a (b.drewN n) := ⟨h.os, h.tape, h.output, h.size, h.block⟩

set_option maxRecDepth 100000 in
set_option maxHeartbeats 2000000 in
theorem chunk1_in (n : Nat) (hn : 1 ≤ n) (l Bd Bs n₀ b o nn c : Nat) (da : Option Addr) (hda : 0 < nn → da = some ⟨b, o, none⟩) (hnn : nn ≤ 100000) (hc : nn ≤ c) (hB1 : Bd < n₀) (hB2 : Bs < n₀) (J Jx : List Nat → World → Prop) (hJd : ∀ s n W, J s W → J s (W.drewN n))
    (hY : ∀ pre (x : Nat) W, J pre W → pre.length < piecesN nn → YieldAt Fence.wide (n - 1) Tryz.prog l #[chunkV b o nn x] W fun e W' =>
      (e = .returned (.bool true) ∧ J (pre ++ [x]) W' ∧ Below n₀ W W') ∨ (e = .returned (.bool false) ∧ Jx (pre ++ [x]) W'))
    (W : World) (hBd : W.cell? ⟨Bd, 0, none⟩ = some (.slice da nn c)) (hBs : W.cell? ⟨Bs, 0, none⟩ = some (.int .i64 123)) (h0 : J [] W) :
    CallsIn Fence.wide n Tryz.prog 100 #[.func (.yield l) #[] #[], pt Bd, pt Bs] W fun e W' => (∃ v, e = .returned v) ∧
      ((∃ ys, ys = List.range (piecesN nn) ∧ J ys W') ∨ (∃ pre, True ∧ Jx pre W')) := by
  refine callsIn_of_wp Tryz.func100 rfl trivial ?_ rfl
  simp only [Tryz.ntmps100, List.size_toArray, List.length_cons, List.length_nil, Nat.reduceAdd, Nat.reduceSub, Array.replicate_succ, Array.replicate_zero, List.push_toArray, List.append_toArray, List.nil_append, List.cons_append]
  obtain ⟨N, hN⟩ : ∃ N, piecesN nn = N := ⟨_, rfl⟩
  have hN2 : N * 123 < nn + 123 ∧ nn ≤ N * 123 := by rw [← hN]; unfold piecesN; omega
  rw [hN] at hY ⊢
  have HY := Lib.hid hY
  have HS := Lib.hid (And.intro hda (And.intro hN2 (And.intro hBd hBs)))
  clear hY hda hN2 hBd hBs hN
  gi_wp2
  gi_loopw [4] (fun iv wr => ∃ k : Nat, k ≤ N ∧ iv = .int .i64 ((k * 123 : Nat) : Int) ∧ J (List.range k) wr ∧ Below n₀ W wr)
    (fun iv wr => (nn + 123 - (intOf iv).toNat))
  case atStart => exact ⟨0, Nat.zero_le _, rfl, h0, Below.refl _ _⟩
  case round =>
    obtain ⟨k, hk, rfl, hJ, hB⟩ := hrel
    obtain ⟨p, hp⟩ : ∃ p, k * 123 = p := ⟨_, rfl⟩
    have c1 : wr.cell? ⟨Bd, 0, none⟩ = some (.slice da nn c) := (hB.cell (p := ⟨Bd, 0, none⟩) hB1).trans HS.out.2.2.1
    have c2 : wr.cell? ⟨Bs, 0, none⟩ = some (.int .i64 123) := (hB.cell (p := ⟨Bs, 0, none⟩) hB2).trans HS.out.2.2.2
    rw [hp]
    have HP := Lib.hid hp
    clear hp
    by_cases hkN : k < N
    · have hpn : p < nn := by have := HS.out.2.1; have := HP.out; omega
      obtain rfl := HS.out.1 (by omega)
      obtain ⟨m, hm⟩ : ∃ m, min 123 (nn - p) = m := ⟨_, rfl⟩
      have hm0 : 0 < m := by omega
      have hmn : min (123 : Int) ((nn - p : Nat) : Int) = (m : Int) := by omega
      have hs1 := fun W => run_slice1 W b o nn c p hpn hc
      have hs3 := fun W => run_slice3 W b o nn c p m hm0 (by omega) hc
      have hm123 : m ≤ 123 := by omega
      have HM := Lib.hid (And.intro hm (And.intro hJ (And.intro hB hkN)))
      clear hm hJ hB hkN
      gi_wp2
      gi_quiet (fail)
      have hJ2 := hJd _ nq _ HM.out.2.1
      obtain ⟨fn, tmps, assign, body, hy, hR⟩ := HY.out (List.range k) k (wr.drewN nq) hJ2 (by rw [List.length_range]; exact HM.out.2.2.2)
      have hcv : chunkV b o nn k = .slice (some ⟨b, o + p, none⟩) m m := by unfold chunkV; rw [HP.out, HM.out.1]
      rw [hcv] at hy
      have HR := Lib.hid hR
      have hp12 : p ≤ 100000 := by omega
      clear hJ2 hR hcv hs1 hmn
      gi_wp2
      refine HR.out.mono ?_
      rintro e W3 (⟨rfl, hJ3, hk3⟩ | ⟨rfl, hJx3⟩)
      · have HJ3 := Lib.hid (And.intro hJ3 ((below_drewN HM.out.2.2.1 nq).trans hk3))
        have d2 : W3.cell? ⟨Bs, 0, none⟩ = some (.int .i64 123) := (hk3.cell (p := ⟨Bs, 0, none⟩) hB2).trans c2
        clear hJ3 hk3 c1 c2 hs3
        gi_wp2
        have hk1 := HM.out.2.2.2
        have hpk := HP.out
        go_roundw
        case rel => exact ⟨k + 1, by omega, congrArg (Value.int .i64) (by omega), by rw [List.range_succ]; exact HJ3.out.1, HJ3.out.2⟩
        case measure => simp [intOf]; omega
      · gi_wp2
        refine bodyPost_ret (results_none rfl _ _ _) rfl ?_
        exact ⟨⟨_, rfl⟩, .inr ⟨_, trivial, hJx3⟩⟩
    · have hkk : k = N := by omega
      subst hkk
      have hpn : ¬ ((p : Int) < (nn : Int)) := by have := HS.out.2.1; have := HP.out; omega
      have HJ := Lib.hid hJ
      clear hJ hB
      gi_wp2
      go_end0
      exact ⟨⟨_, rfl⟩, .inl HJ.out⟩
end Go.Flr
