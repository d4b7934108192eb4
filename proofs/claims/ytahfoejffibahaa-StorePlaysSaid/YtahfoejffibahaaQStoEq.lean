/-
  EqInts and eqBlocks, walked; and ContainsFunc over a player's calls.
-/
import Derived.BigQuiet
import Derived.WalkSmall
import Derived.Test.YtahfoejffibahaaQStoPlay
set_option linter.unusedVariables false

namespace Go.Sto
open Go.Own Go.RowKit Go.Proofs

/-- The ints of a row lie where the slice says. -/
def IntsC (w : World) (a : Option Addr) (l : List Int) : Prop := ∀ k x, l[k]? = some x → ∃ b off, a = some ⟨b, off, none⟩ ∧ w.cell? ⟨b, off + k, none⟩ = some (.int .i64 x)

theorem IntsC.below {w w' : World} {a : Option Addr} {l : List Int} (h : IntsC w a l) (hB : Below w.heap.size w w') : IntsC w' a l := fun k x hk => by
  obtain ⟨b, off, e, c⟩ := h k x hk
  exact ⟨b, off, e, (hB.cell (p := ⟨b, off + k, none⟩) (cell_lt c)).trans c⟩

theorem IntsC.ex {w : World} {a : Option Addr} {l : List Int} (h : IntsC w a l) (j : Nat) (hj : j < l.length) : ∃ b off, a = some ⟨b, off, none⟩ ∧ w.cell? ⟨b, off + j, none⟩ = some (.int .i64 l[j]) := h j _ (List.getElem?_eq_getElem hj)

set_option maxRecDepth 100000 in
set_option maxHeartbeats 2000000 in
theorem eqints_calls {w : World} {a1 a2 : Option Addr} {l1 l2 : List Int} (c1 c2 : Nat) (h1 : IntsC w a1 l1) (h2 : IntsC w a2 l2) (hl1 : l1.length ≤ 1000000) (_hl2 : l2.length ≤ 1000000) :
    Calls Try.prog 15 #[.slice a1 l1.length c1, .slice a2 l2.length c2] w fun e w' => e = .returned (.bool (decide (l1 = l2))) ∧ Below w.heap.size w w' := by
  have H1 := Lib.hid h1
  have H2 := Lib.hid h2
  clear h1 h2
  by_cases hl : l1.length = l2.length
  · have q1 : ((l1.length : Int) == l2.length) = true := by simp [hl]
    have q2 : (l1.length == l2.length) = true := by simp [hl]
    have HL := Lib.hid hl
    rw [hl] at q1 q2 hl1 ⊢
    clear hl
    go_enter Try.func15, Try.ntmps15
    go_wp2
    go_loopw [5] (fun i wr => ∃ j : Nat, j ≤ l2.length ∧ i = .int .i64 j ∧ Below w.heap.size w wr ∧ ∀ j' x, j' < j → (l1[j']? = some x ↔ l2[j']? = some x)) (fun i _ => l2.length - (intOf i).toNat)
    case atStart => exact ⟨0, by omega, rfl, Below.refl _ _, fun j' x hj => by omega⟩
    case round =>
      obtain ⟨j, hj, rfl, hB, hsk⟩ := hrel
      have HS := Lib.hid (And.intro hB hsk)
      clear hsk hB
      by_cases hlt : j < l2.length
      · have hlt1 : j < l1.length := by rw [HL.out]; exact hlt
        obtain ⟨b1, o1, rfl, d1⟩ := (H1.out.below HS.out.1).ex j hlt1
        obtain ⟨b2, o2, rfl, d2⟩ := (H2.out.below HS.out.1).ex j hlt
        obtain ⟨x, hx⟩ : ∃ x, l1[j] = x := ⟨_, rfl⟩
        obtain ⟨y, hy⟩ : ∃ x, l2[j] = x := ⟨_, rfl⟩
        rw [hx] at d1
        rw [hy] at d2
        have HX : l1[j]? = some x := by rw [List.getElem?_eq_getElem hlt1, hx]
        have HY : l2[j]? = some y := by rw [List.getElem?_eq_getElem hlt, hy]
        have HXY := Lib.hid (And.intro HX HY)
        clear hx hy HX HY
        by_cases hxy : x = y
        · have q3 : (x == y) = true := by simp [hxy]
          have HE := Lib.hid hxy
          clear hxy
          go_wp2_with fail
          go_quiet (fail)
          go_wp2_with fail
          go_roundw
          case rel =>
            refine ⟨j + 1, by omega, by go_num, below_drewN HS.out.1 _, fun j' z hj' => ?_⟩
            rcases Nat.lt_or_eq_of_le (Nat.le_of_lt_succ hj') with q | q
            · exact HS.out.2 j' z q
            · subst q; rw [HXY.out.1, HXY.out.2, HE.out]
          case measure => simp [intOf]; omega
        · have q3 : (x == y) = false := by simp [hxy]
          have HE := Lib.hid hxy
          clear hxy
          go_wp2_with fail
          go_quiet (fail)
          go_wp2_with fail
          go_ret
          refine ⟨?_, below_drewN HS.out.1 _⟩
          have : ¬ l1 = l2 := fun e => HE.out (by
            have := HXY.out.1
            rw [e, HXY.out.2] at this
            exact (Option.some.inj this).symm)
          simp [this]
      · obtain rfl : j = l2.length := by omega
        go_wp2
        go_ret
        refine ⟨?_, HS.out.1⟩
        have : l1 = l2 := by
          apply List.ext_getElem?
          intro i
          rcases Nat.lt_or_ge i l2.length with q | q
          · have hq : i < l1.length := by rw [HL.out]; exact q
            have := (HS.out.2 i l1[i] q).1 (List.getElem?_eq_getElem hq)
            rw [this]; exact List.getElem?_eq_getElem hq
          · rw [List.getElem?_eq_none q, List.getElem?_eq_none (by rw [HL.out]; exact q)]
        simp [this]
  · have q1 : ((l1.length : Int) == l2.length) = false := by simp; omega
    have q2 : (l1.length == l2.length) = false := by simp; omega
    have q3 : decide (l1 = l2) = false := by simp; intro e; exact hl (by rw [e])
    rw [q3]
    clear hl
    go_enter Try.func15, Try.ntmps15
    go_wp2
    go_ret
    exact ⟨rfl, Below.refl _ _⟩

set_option maxRecDepth 100000 in
set_option maxHeartbeats 2000000 in
theorem index2_calls {w : World} {a : Option Addr} {l : List (Int × Int)} (cap : Nat) (hin : PIn w a l) (hl : l.length ≤ 1000) :
    Calls Try.prog 63 #[.slice a l.length cap, .func (.func 39) #[] #[]] w fun e w' => (∃ k : Int, e = .returned (.int .i64 k) ∧ -1 ≤ k ∧ k ≤ 1000 ∧ (0 ≤ k ↔ l.any badCall = true)) ∧ Below w.heap.size w w' := by
  have HI := Lib.hid hin
  clear hin
  go_enter Try.func63, Try.ntmps63
  go_wp2
  go_loopw [8] (fun i wr => ∃ j : Nat, j ≤ l.length ∧ i = .int .i64 j ∧ Below w.heap.size w wr ∧ ∀ j' x, j' < j → l[j']? = some x → badCall x = false) (fun i _ => l.length - (intOf i).toNat)
  case atStart => exact ⟨0, by omega, rfl, Below.refl _ _, fun j' x hj => by omega⟩
  case round =>
    obtain ⟨j, hj, rfl, hB, hsk⟩ := hrel
    have HS := Lib.hid (And.intro hB hsk)
    clear hsk hB
    by_cases hlt : j < l.length
    · obtain ⟨c, hc⟩ : ∃ c, l[j]? = some c := ⟨_, List.getElem?_eq_getElem hlt⟩
      have hold : Old w wr := ⟨HS.out.1.os, HS.out.1.tape, HS.out.1.output, HS.out.1.size, fun k hk _ => HS.out.1.block k hk⟩
      obtain ⟨b, off, rfl, hcc⟩ := (HI.out.old hold).resolve_left (by intro e; rw [e] at hlt; simp at hlt)
      obtain ⟨c0, c1⟩ := hcc j c hc
      obtain ⟨x, y⟩ := c
      simp only at c0 c1
      have HP := Lib.hid (play1_calls x y wr)
      have HC := Lib.hid hc
      clear hc hcc hold
      by_cases hb : badCall (x, y) = true
      · go_wp2_with (go_at_call 39; refine HP.out.mono ?_; rintro e w1 ⟨rfl, hB1⟩)
        go_ret
        refine ⟨⟨j, rfl, by omega, by omega, by simp only [Int.natCast_nonneg, true_iff]; exact List.any_eq_true.2 ⟨_, List.mem_of_getElem? HC.out, hb⟩⟩, HS.out.1.trans (hB1.mono HS.out.1.size)⟩
      · have hb' : badCall (x, y) = false := by simpa using hb
        go_wp2_with (go_at_call 39; refine HP.out.mono ?_; rintro e w1 ⟨rfl, hB1⟩)
        go_roundw
        case rel =>
          refine ⟨j + 1, by omega, by go_num, HS.out.1.trans (hB1.mono HS.out.1.size), fun j' z hj' hz => ?_⟩
          rcases Nat.lt_or_eq_of_le (Nat.le_of_lt_succ hj') with q | q
          · exact HS.out.2 j' z q hz
          · subst q; rw [HC.out] at hz; cases hz; exact hb'
        case measure => simp [intOf]; omega
    · obtain rfl : j = l.length := by omega
      go_wp2
      go_ret
      refine ⟨⟨-1, rfl, by omega, by omega, ?_⟩, HS.out.1⟩
      have : l.any badCall = false := by
        rw [Bool.eq_false_iff]
        intro h
        obtain ⟨x, hx, hb⟩ := List.any_eq_true.1 h
        obtain ⟨i, hi⟩ := List.getElem?_of_mem hx
        have hil := (List.getElem?_eq_some_iff.1 hi).1
        rw [HS.out.2 i x hil hi] at hb
        cases hb
      rw [this]
      decide

set_option maxHeartbeats 1000000 in
theorem contains_calls {w : World} {a : Option Addr} {l : List (Int × Int)} (cap : Nat) (hin : PIn w a l) (hl : l.length ≤ 1000) :
    Calls Try.prog 38 #[.slice a l.length cap, .func (.func 39) #[] #[]] w fun e w' => e = .returned (.bool (l.any badCall)) ∧ Below w.heap.size w w' := by
  have HI := Lib.hid (index2_calls cap hin hl)
  clear hin
  go_enter Try.func38, Try.ntmps38
  go_wp2_with (go_at_call 63; refine HI.out.mono ?_; rintro e w1 ⟨⟨k, rfl, k1, k2, k3⟩, hB1⟩)
  go_ret
  refine ⟨?_, hB1⟩
  by_cases h : 0 ≤ k
  · rw [k3.1 h]; simp [h]
  · have : l.any badCall = false := by rw [Bool.eq_false_iff]; exact fun e => h (k3.2 e)
    rw [this]; simp; omega
end Go.Sto

/-
  The first example of the chapter, walked.
-/
namespace Go.Sto
open Go.Own Go.RowKit Go.Proofs

def ex18 : List (Int × Int) := [(0, 3), (0, 4), (1, 0), (0, 1)]
theorem ex18_end : (playEnd ex18 16).gave = [1, 5, 0, 1] ∧ (blkCells (blocks 0 (playEnd ex18 16).S)).length = 12 ∧ (blkCells (blocks 0 (playEnd ex18 16).S)).take 3 = [.int .i64 0, .int .i64 2, .bool false] := ⟨by decide, by rfl, by rfl⟩
theorem ex18_ok : ∀ p ∈ ex18, DoOk p.1 := by
  intro p hp
  simp only [ex18, List.mem_cons, List.not_mem_nil, or_false] at hp
  rcases hp with rfl | rfl | rfl | rfl
  · exact doOk_get
  · exact doOk_get
  · exact doOk_put
  · exact doOk_get
theorem ex18_wf : ∀ p ∈ ex18, (Lit.int .i64 p.1).wf = true ∧ (Lit.int .i64 p.2).wf = true := by decide

def ex18row : Obj := .cells #[.int .i64 0, .int .i64 3, .int .i64 0, .int .i64 4, .int .i64 1, .int .i64 0, .int .i64 0, .int .i64 1] 67

theorem ex18_in (w : World) : PIn (w.alloc ex18row) (some ⟨w.heap.size, 0, none⟩) ex18 := by
  refine .inr ⟨_, _, rfl, fun i p hp => ?_⟩
  have hb := heap_alloc_new w ex18row
  have c : ∀ (i : Nat) v, (#[.int .i64 0, .int .i64 3, .int .i64 0, .int .i64 4, .int .i64 1, .int .i64 0, .int .i64 0, .int .i64 1] : Array Value)[i]? = some v → (w.alloc ex18row).cell? ⟨w.heap.size, i, none⟩ = some v := fun i v h => cell_at hb h
  match i, hp with
  | 0, hp => cases hp; exact ⟨c 0 _ rfl, c 1 _ rfl⟩
  | 1, hp => cases hp; exact ⟨c 2 _ rfl, c 3 _ rfl⟩
  | 2, hp => cases hp; exact ⟨c 4 _ rfl, c 5 _ rfl⟩
  | 3, hp => cases hp; exact ⟨c 6 _ rfl, c 7 _ rfl⟩
  | _ + 4, hp => cases hp

theorem ex18_play (w : World) : Calls Try.prog 13 #[.int .i64 16, .slice (some ⟨w.heap.size, 0, none⟩) 4 4] (w.alloc ex18row) (PlayPost (w.alloc ex18row) 16 ex18) :=
  play_good 16 (by decide) (by decide) (by decide) ex18 _ 4 (ex18_in w) (by decide) ex18_ok ex18_wf fun w' h => by
    have := contains_calls 4 h (by decide)
    rw [show ex18.any badCall = false by decide] at this
    exact this

def ex18lits : Obj := .cells #[.int .i64 1, .int .i64 5, .int .i64 0, .int .i64 1] 3
theorem ex18_lits (w : World) : IntsC (w.alloc ex18lits) (some ⟨w.heap.size, 0, none⟩) [1, 5, 0, 1] := by
  intro i x hx
  refine ⟨_, _, rfl, ?_⟩
  have hb := heap_alloc_new w ex18lits
  have c : ∀ (i : Nat) v, (#[.int .i64 1, .int .i64 5, .int .i64 0, .int .i64 1] : Array Value)[i]? = some v → (w.alloc ex18lits).cell? ⟨w.heap.size, i, none⟩ = some v := fun i v h => cell_at hb h
  rw [Nat.zero_add]
  match i, hx with
  | 0, hx => cases hx; exact c 0 _ rfl
  | 1, hx => cases hx; exact c 1 _ rfl
  | 2, hx => cases hx; exact c 2 _ rfl
  | 3, hx => cases hx; exact c 3 _ rfl
  | _ + 4, hx => cases hx

theorem ex18_first {w : World} {pb po pc : Nat} (hb : SliceAt w 46 3 (.slice (some ⟨pb, po, none⟩) 4 pc) (blkCells (blocks 0 (playEnd ex18 16).S))) :
    w.cell? ⟨pb, po, none⟩ = some (.int .i64 0) ∧ w.cell? ⟨pb, po + 1, none⟩ = some (.int .i64 2) ∧ w.cell? ⟨pb, po + 2, none⟩ = some (.bool false) := by
  have e : ∀ i : Nat, i < 3 → (blkCells (blocks 0 (playEnd ex18 16).S))[i]? = ([.int .i64 0, .int .i64 2, .bool false] : List Value)[i]? := fun i hi => by
    rw [← ex18_end.2.2, List.getElem?_take, if_pos hi]
  exact ⟨hb.cells 0 _ (e 0 (by decide)), hb.cells 1 _ (e 1 (by decide)), hb.cells 2 _ (e 2 (by decide))⟩

theorem old_trans {w0 w1 w2 : World} (h : Old w0 w1) (k : Old w1 w2) : Old w0 w2 :=
  h.trans (k.mono fun i (a : i < _) (b : _ ≤ i) => absurd a (Nat.not_lt.2 b))

set_option maxRecDepth 100000 in
set_option maxHeartbeats 2000000 in
theorem awake_calls (w : World) : Calls Try.prog 12 #[] w fun e w' => e = .returned (.bool true) ∧ Old w w' := by
  have HP := Lib.hid (ex18_play w)
  go_enter Try.func12, Try.ntmps12
  go_wp2_with fail
  refine HP.out.mono ?_
  rintro e1 w1 ⟨v, bv, rfl, hv, hb, ho⟩
  rw [ex18_end.1] at hv
  obtain ⟨a, cap, rfl, -, -, hc⟩ := ints_form hv
  obtain ⟨pa, pn, pc, rfl, hpl, -⟩ := hb.form
  rw [ex18_end.2.1] at hpl
  obtain rfl : pn = 4 := by omega
  obtain ⟨pb, po, rfl⟩ := hb.addr (by decide)
  obtain ⟨d0, d1, d2⟩ := ex18_first hb
  have hbl := cell_lt d0
  have HE := Lib.hid (eqints_calls (w := w1.alloc ex18lits) (a1 := a) (a2 := some ⟨w1.heap.size, 0, none⟩) (l1 := [1, 5, 0, 1]) (l2 := [1, 5, 0, 1]) cap 4 (IntsC.below hc ((Below.refl _ w1).alloc (Nat.le_refl _) ex18lits)) (ex18_lits w1) (by decide) (by decide))
  have HO := Lib.hid ho
  clear hv hc hb ho
  have HK : ∀ w2, Below (w1.alloc ex18lits).heap.size (w1.alloc ex18lits) w2 → w2.cell? ⟨pb, po, none⟩ = some (.int .i64 0) ∧ w2.cell? ⟨pb, po + 1, none⟩ = some (.int .i64 2) ∧ w2.cell? ⟨pb, po + 2, none⟩ = some (.bool false) := fun w2 hB => by
    have hB' : Below w1.heap.size w1 w2 := ((Below.refl _ w1).alloc (Nat.le_refl _) ex18lits).trans (hB.mono (by simp))
    exact ⟨(hB'.cell (p := ⟨pb, po, none⟩) hbl).trans d0, (hB'.cell (p := ⟨pb, po + 1, none⟩) hbl).trans d1, (hB'.cell (p := ⟨pb, po + 2, none⟩) hbl).trans d2⟩
  have HK := Lib.hid HK
  clear d0 d1 d2
  go_wp2_with fail
  refine HE.out.mono ?_
  rintro e2 w2 ⟨rfl, hB2⟩
  obtain ⟨d0, d1, d2⟩ := HK.out w2 hB2
  go_wp2_with fail
  go_ret
  refine ⟨rfl, ?_⟩
  have h1 : Old w (w.alloc ex18row) := (Turn.refl _ w).alloc _
  have hz := HO.out.size
  have hB' : Below w1.heap.size w1 w2 := ((Below.refl _ w1).alloc (Nat.le_refl _) ex18lits).trans (hB2.mono (by simp))
  exact old_trans h1 (old_trans HO.out ⟨hB'.os, hB'.tape, hB'.output, hB'.size, fun k hk _ => hB'.block k hk⟩)
end Go.Sto
