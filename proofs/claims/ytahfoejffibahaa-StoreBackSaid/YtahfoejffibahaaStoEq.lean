/-
  EqInts and eqBlocks, walked; and ContainsFunc over a player's calls.
-/
import Derived.BigQuiet
import Derived.WalkSmall
import Derived.Test.YtahfoejffibahaaStoPlay
namespace Go.Sto
open Go.Own Go.RowKit Go.Proofs

/-- The ints of a row lie where the slice says. -/
def IntsC (w : World) (a : Option Addr) (l : List Int) : Prop := ∀ k x, l[k]? = some x → ∃ b off, a = some ⟨b, off, none⟩ ∧ w.cell? ⟨b, off + k, none⟩ = some (.int .i64 x)

theorem IntsC.below {w w' : World} {a : Option Addr} {l : List Int} (h : IntsC w a l) (hB : Below w.heap.size w w') : IntsC w' a l := fun k x hk => by
  obtain ⟨b, off, e, c⟩ := h k x hk
  exact ⟨b, off, e, (hB.cell (p := ⟨b, off + k, none⟩) (cell_lt c)).trans c⟩

theorem IntsC.ex {w : World} {a : Option Addr} {l : List Int} (h : IntsC w a l) (j : Nat) (hj : j < l.length) : ∃ b off, a = some ⟨b, off, none⟩ ∧ w.cell? ⟨b, off + j, none⟩ = some (.int .i64 l[j]) := h j _ (List.getElem?_eq_getElem hj)

set_option maxRecDepth 100000 in
set_option maxHeartbeats 2000000 in
theorem eqints_calls {w : World} {a1 a2 : Option Addr} {l1 l2 : List Int} (c1 c2 : Nat) (h1 : IntsC w a1 l1) (h2 : IntsC w a2 l2) (hl1 : l1.length ≤ 1000000) (_hl2 : l2.length ≤ 1000000) :
    Calls Try.prog 15 #[.slice a1 l1.length c1, .slice a2 l2.length c2] w fun e w' => e = .returned (.bool (decide (l1 = l2))) ∧ Below w.heap.size w w' := by
  have H1 := Lib.hid h1
  have H2 := Lib.hid h2
  clear h1 h2
  by_cases hl : l1.length = l2.length
  · have q1 : ((l1.length : Int) == l2.length) = true := by simp [hl]
    have q2 : (l1.length == l2.length) = true := by simp [hl]
    have HL := Lib.hid hl
    rw [hl] at q1 q2 hl1 ⊢
    clear hl
    go_enter Try.func15, Try.ntmps15
    go_wp2
    go_loopw [5] (fun i wr => ∃ j : Nat, j ≤ l2.length ∧ i = .int .i64 j ∧ Below w.heap.size w wr ∧ ∀ j' x, j' < j → (l1[j']? = some x ↔ l2[j']? = some x)) (fun i _ => l2.length - (intOf i).toNat)
    case atStart => exact ⟨0, by omega, rfl, Below.refl _ _, fun j' x hj => by omega⟩
    case round =>
      obtain ⟨j, hj, rfl, hB, hsk⟩ := hrel
      have HS := Lib.hid (And.intro hB hsk)
      clear hsk hB
      by_cases hlt : j < l2.length
      · have hlt1 : j < l1.length := by rw [HL.out]; exact hlt
        obtain ⟨b1, o1, rfl, d1⟩ := (H1.out.below HS.out.1).ex j hlt1
        obtain ⟨b2, o2, rfl, d2⟩ := (H2.out.below HS.out.1).ex j hlt
        obtain ⟨x, hx⟩ : ∃ x, l1[j] = x := ⟨_, rfl⟩
        obtain ⟨y, hy⟩ : ∃ x, l2[j] = x := ⟨_, rfl⟩
        rw [hx] at d1
        rw [hy] at d2
        have HX : l1[j]? = some x := by rw [List.getElem?_eq_getElem hlt1, hx]
        have HY : l2[j]? = some y := by rw [List.getElem?_eq_getElem hlt, hy]
        have HXY := Lib.hid (And.intro HX HY)
        clear hx hy HX HY
        by_cases hxy : x = y
        · have q3 : (x == y) = true := by simp [hxy]
          have HE := Lib.hid hxy
          clear hxy
          go_wp2_with fail
          go_quiet (fail)
          go_wp2_with fail
          go_roundw
          case rel =>
            refine ⟨j + 1, by omega, by go_num, below_drewN HS.out.1 _, fun j' z hj' => ?_⟩
            rcases Nat.lt_or_eq_of_le (Nat.le_of_lt_succ hj') with q | q
            · exact HS.out.2 j' z q
            · subst q; rw [HXY.out.1, HXY.out.2, HE.out]
          case measure => simp [intOf]; omega
        · have q3 : (x == y) = false := by simp [hxy]
          have HE := Lib.hid hxy
          clear hxy
          go_wp2_with fail
          go_quiet (fail)
          go_wp2_with fail
          go_ret
          refine ⟨?_, below_drewN HS.out.1 _⟩
          have : ¬ l1 = l2 := fun e => HE.out (by
            have := HXY.out.1
            rw [e, HXY.out.2] at this
            exact (Option.some.inj this).symm)
          simp [this]
      · obtain rfl : j = l2.length := by omega
        go_wp2
        go_ret
        refine ⟨?_, HS.out.1⟩
        have : l1 = l2 := by
          apply List.ext_getElem?
          intro i
          rcases Nat.lt_or_ge i l2.length with q | q
          · have hq : i < l1.length := by rw [HL.out]; exact q
            have := (HS.out.2 i l1[i] q).1 (List.getElem?_eq_getElem hq)
            rw [this]; exact List.getElem?_eq_getElem hq
          · rw [List.getElem?_eq_none q, List.getElem?_eq_none (by rw [HL.out]; exact q)]
        simp [this]
  · have q1 : ((l1.length : Int) == l2.length) = false := by simp; omega
    have q2 : (l1.length == l2.length) = false := by simp; omega
    have q3 : decide (l1 = l2) = false := by simp; intro e; exact hl (by rw [e])
    rw [q3]
    clear hl
    go_enter Try.func15, Try.ntmps15
    go_wp2
    go_ret
    exact ⟨rfl, Below.refl _ _⟩

set_option maxRecDepth 100000 in
set_option maxHeartbeats 2000000 in
theorem index2_calls {w : World} {a : Option Addr} {l : List (Int × Int)} (cap : Nat) (hin : PIn w a l) (hl : l.length ≤ 1000) :
    Calls Try.prog 63 #[.slice a l.length cap, .func (.func 39) #[] #[]] w fun e w' => (∃ k : Int, e = .returned (.int .i64 k) ∧ -1 ≤ k ∧ k ≤ 1000 ∧ (0 ≤ k ↔ l.any badCall = true)) ∧ Below w.heap.size w w' := by
  have HI := Lib.hid hin
  clear hin
  go_enter Try.func63, Try.ntmps63
  go_wp2
  go_loopw [8] (fun i wr => ∃ j : Nat, j ≤ l.length ∧ i = .int .i64 j ∧ Below w.heap.size w wr ∧ ∀ j' x, j' < j → l[j']? = some x → badCall x = false) (fun i _ => l.length - (intOf i).toNat)
  case atStart => exact ⟨0, by omega, rfl, Below.refl _ _, fun j' x hj => by omega⟩
  case round =>
    obtain ⟨j, hj, rfl, hB, hsk⟩ := hrel
    have HS := Lib.hid (And.intro hB hsk)
    clear hsk hB
    by_cases hlt : j < l.length
    · obtain ⟨c, hc⟩ : ∃ c, l[j]? = some c := ⟨_, List.getElem?_eq_getElem hlt⟩
      have hold : Old w wr := ⟨HS.out.1.os, HS.out.1.tape, HS.out.1.output, HS.out.1.size, fun k hk _ => HS.out.1.block k hk⟩
      obtain ⟨b, off, rfl, hcc⟩ := (HI.out.old hold).resolve_left (by intro e; rw [e] at hlt; simp at hlt)
      obtain ⟨c0, c1⟩ := hcc j c hc
      obtain ⟨x, y⟩ := c
      simp only at c0 c1
      have HP := Lib.hid (play1_calls x y wr)
      have HC := Lib.hid hc
      clear hc hcc hold
      by_cases hb : badCall (x, y) = true
      · go_wp2_with (go_at_call 39; refine HP.out.mono ?_; rintro e w1 ⟨rfl, hB1⟩)
        go_ret
        refine ⟨⟨j, rfl, by omega, by omega, by simp only [Int.natCast_nonneg, true_iff]; exact List.any_eq_true.2 ⟨_, List.mem_of_getElem? HC.out, hb⟩⟩, HS.out.1.trans (hB1.mono HS.out.1.size)⟩
      · have hb' : badCall (x, y) = false := by simpa using hb
        go_wp2_with (go_at_call 39; refine HP.out.mono ?_; rintro e w1 ⟨rfl, hB1⟩)
        go_roundw
        case rel =>
          refine ⟨j + 1, by omega, by go_num, HS.out.1.trans (hB1.mono HS.out.1.size), fun j' z hj' hz => ?_⟩
          rcases Nat.lt_or_eq_of_le (Nat.le_of_lt_succ hj') with q | q
          · exact HS.out.2 j' z q hz
          · subst q; rw [HC.out] at hz; cases hz; exact hb'
        case measure => simp [intOf]; omega
    · obtain rfl : j = l.length := by omega
      go_wp2
      go_ret
      refine ⟨⟨-1, rfl, by omega, by omega, ?_⟩, HS.out.1⟩
      have : l.any badCall = false := by
        rw [Bool.eq_false_iff]
        intro h
        obtain ⟨x, hx, hb⟩ := List.any_eq_true.1 h
        obtain ⟨i, hi⟩ := List.getElem?_of_mem hx
        have hil := (List.getElem?_eq_some_iff.1 hi).1
        rw [HS.out.2 i x hil hi] at hb
        cases hb
      rw [this]
      decide

set_option maxHeartbeats 1000000 in
theorem contains_calls {w : World} {a : Option Addr} {l : List (Int × Int)} (cap : Nat) (hin : PIn w a l) (hl : l.length ≤ 1000) :
    Calls Try.prog 38 #[.slice a l.length cap, .func (.func 39) #[] #[]] w fun e w' => e = .returned (.bool (l.any badCall)) ∧ Below w.heap.size w w' := by
  have HI := Lib.hid (index2_calls cap hin hl)
  clear hin
  go_enter Try.func38, Try.ntmps38
  go_wp2_with (go_at_call 63; refine HI.out.mono ?_; rintro e w1 ⟨⟨k, rfl, k1, k2, k3⟩, hB1⟩)
  go_ret
  refine ⟨?_, hB1⟩
  by_cases h : 0 ≤ k
  · rw [k3.1 h]; simp [h]
  · have : l.any badCall = false := by rw [Bool.eq_false_iff]; exact fun e => h (k3.2 e)
    rw [this]; simp; omega
end Go.Sto
