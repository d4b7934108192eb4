/-
  EqBytes and eqBlocks, walked.
-/
import Derived.BigQuiet
import Derived.WalkSmall
import Derived.Test.YtahfoejffibahaaQStoEq
set_option linter.unusedVariables false

namespace Go.Sto
open Go.Own Go.RowKit Go.Proofs

/-- The bytes of a row lie where the slice says. -/
def BytesA (w : World) (a : Option Addr) (l : List Int) : Prop := ∀ k x, l[k]? = some x → ∃ b off, a = some ⟨b, off, none⟩ ∧ w.cell? ⟨b, off + k, none⟩ = some (.int .u8 x)

theorem BytesA.below {w w' : World} {a : Option Addr} {l : List Int} (h : BytesA w a l) (hB : Below w.heap.size w w') : BytesA w' a l := fun k x hk => by
  obtain ⟨b, off, e, c⟩ := h k x hk
  exact ⟨b, off, e, (hB.cell (p := ⟨b, off + k, none⟩) (cell_lt c)).trans c⟩

theorem BytesA.ex {w : World} {a : Option Addr} {l : List Int} (h : BytesA w a l) (j : Nat) (hj : j < l.length) : ∃ b off, a = some ⟨b, off, none⟩ ∧ w.cell? ⟨b, off + j, none⟩ = some (.int .u8 l[j]) := h j _ (List.getElem?_eq_getElem hj)

set_option maxRecDepth 100000 in
set_option maxHeartbeats 2000000 in
theorem eqbytes_calls {w : World} {a1 a2 : Option Addr} {l1 l2 : List Int} (c1 c2 : Nat) (h1 : BytesA w a1 l1) (h2 : BytesA w a2 l2) (hl1 : l1.length ≤ 1000000000) (_hl2 : l2.length ≤ 1000000000) :
    Calls Try.prog 31 #[.slice a1 l1.length c1, .slice a2 l2.length c2] w fun e w' => e = .returned (.bool (decide (l1 = l2))) ∧ Below w.heap.size w w' := by
  have H1 := Lib.hid h1
  have H2 := Lib.hid h2
  clear h1 h2
  by_cases hl : l1.length = l2.length
  · have q1 : ((l1.length : Int) == l2.length) = true := by simp [hl]
    have q2 : (l1.length == l2.length) = true := by simp [hl]
    have HL := Lib.hid hl
    rw [hl] at q1 q2 hl1 ⊢
    clear hl
    go_enter Try.func31, Try.ntmps31
    go_wp2
    go_loopw [5] (fun i wr => ∃ j : Nat, j ≤ l2.length ∧ i = .int .i64 j ∧ Below w.heap.size w wr ∧ ∀ j' x, j' < j → (l1[j']? = some x ↔ l2[j']? = some x)) (fun i _ => l2.length - (intOf i).toNat)
    case atStart => exact ⟨0, by omega, rfl, Below.refl _ _, fun j' x hj => by omega⟩
    case round =>
      obtain ⟨j, hj, rfl, hB, hsk⟩ := hrel
      have HS := Lib.hid (And.intro hB hsk)
      clear hsk hB
      by_cases hlt : j < l2.length
      · have hlt1 : j < l1.length := by rw [HL.out]; exact hlt
        obtain ⟨b1, o1, rfl, d1⟩ := (H1.out.below HS.out.1).ex j hlt1
        obtain ⟨b2, o2, rfl, d2⟩ := (H2.out.below HS.out.1).ex j hlt
        obtain ⟨x, hx⟩ : ∃ x, l1[j] = x := ⟨_, rfl⟩
        obtain ⟨y, hy⟩ : ∃ x, l2[j] = x := ⟨_, rfl⟩
        rw [hx] at d1
        rw [hy] at d2
        have HX : l1[j]? = some x := by rw [List.getElem?_eq_getElem hlt1, hx]
        have HY : l2[j]? = some y := by rw [List.getElem?_eq_getElem hlt, hy]
        have HXY := Lib.hid (And.intro HX HY)
        clear hx hy HX HY
        by_cases hxy : x = y
        · have q3 : (x == y) = true := by simp [hxy]
          have HE := Lib.hid hxy
          clear hxy
          go_wp2_with fail
          go_quiet (fail)
          go_wp2_with fail
          go_roundw
          case rel =>
            refine ⟨j + 1, by omega, by go_num, below_drewN HS.out.1 _, fun j' z hj' => ?_⟩
            rcases Nat.lt_or_eq_of_le (Nat.le_of_lt_succ hj') with q | q
            · exact HS.out.2 j' z q
            · subst q; rw [HXY.out.1, HXY.out.2, HE.out]
          case measure => simp [intOf]; omega
        · have q3 : (x == y) = false := by simp [hxy]
          have HE := Lib.hid hxy
          clear hxy
          go_wp2_with fail
          go_quiet (fail)
          go_wp2_with fail
          go_ret
          refine ⟨?_, below_drewN HS.out.1 _⟩
          have : ¬ l1 = l2 := fun e => HE.out (by
            have := HXY.out.1
            rw [e, HXY.out.2] at this
            exact (Option.some.inj this).symm)
          simp [this]
      · obtain rfl : j = l2.length := by omega
        go_wp2
        go_ret
        refine ⟨?_, HS.out.1⟩
        have : l1 = l2 := by
          apply List.ext_getElem?
          intro i
          rcases Nat.lt_or_ge i l2.length with q | q
          · have hq : i < l1.length := by rw [HL.out]; exact q
            have := (HS.out.2 i l1[i] q).1 (List.getElem?_eq_getElem hq)
            rw [this]; exact List.getElem?_eq_getElem hq
          · rw [List.getElem?_eq_none q, List.getElem?_eq_none (by rw [HL.out]; exact q)]
        simp [this]
  · have q1 : ((l1.length : Int) == l2.length) = false := by simp; omega
    have q2 : (l1.length == l2.length) = false := by simp; omega
    have q3 : decide (l1 = l2) = false := by simp; intro e; exact hl (by rw [e])
    rw [q3]
    clear hl
    go_enter Try.func31, Try.ntmps31
    go_wp2
    go_ret
    exact ⟨rfl, Below.refl _ _⟩

/-- The blocks of a row lie where the slice says. -/
def BlksC (w : World) (a : Option Addr) (l : BL) : Prop := ∀ k b, l[k]? = some b → ∃ g off, a = some ⟨g, off, none⟩ ∧ w.cell? ⟨g, off + k * 3, none⟩ = some (.int .i64 b.1) ∧ w.cell? ⟨g, off + k * 3 + 1, none⟩ = some (.int .i64 b.2.1) ∧ w.cell? ⟨g, off + k * 3 + 2, none⟩ = some (.bool b.2.2)

theorem BlksC.below {w w' : World} {a : Option Addr} {l : BL} (h : BlksC w a l) (hB : Below w.heap.size w w') : BlksC w' a l := fun k x hk => by
  obtain ⟨b, off, e, c0, c1, c2⟩ := h k x hk
  exact ⟨b, off, e, (hB.cell (p := ⟨b, off + k * 3, none⟩) (cell_lt c0)).trans c0, (hB.cell (p := ⟨b, off + k * 3 + 1, none⟩) (cell_lt c1)).trans c1, (hB.cell (p := ⟨b, off + k * 3 + 2, none⟩) (cell_lt c2)).trans c2⟩

set_option maxRecDepth 100000 in
set_option maxHeartbeats 2000000 in
theorem eqblocks_calls {w : World} {a1 a2 : Option Addr} {l1 l2 : BL} (c1 c2 : Nat) (h1 : BlksC w a1 l1) (h2 : BlksC w a2 l2) (hl1 : l1.length ≤ 1000000) (_hl2 : l2.length ≤ 1000000) :
    Calls Try.prog 16 #[.slice a1 l1.length c1, .slice a2 l2.length c2] w fun e w' => e = .returned (.bool (decide (l1 = l2))) ∧ Below w.heap.size w w' := by
  have H1 := Lib.hid h1
  have H2 := Lib.hid h2
  clear h1 h2
  by_cases hl : l1.length = l2.length
  · have q1 : ((l1.length : Int) == l2.length) = true := by simp [hl]
    have q2 : (l1.length == l2.length) = true := by simp [hl]
    have HL := Lib.hid hl
    rw [hl] at q1 q2 hl1 ⊢
    clear hl
    go_enter Try.func16, Try.ntmps16
    go_wp2
    go_loopw [5] (fun i wr => ∃ j : Nat, j ≤ l2.length ∧ i = .int .i64 j ∧ Below w.heap.size w wr ∧ ∀ j' x, j' < j → (l1[j']? = some x ↔ l2[j']? = some x)) (fun i _ => l2.length - (intOf i).toNat)
    case atStart => exact ⟨0, by omega, rfl, Below.refl _ _, fun j' x hj => by omega⟩
    case round =>
      obtain ⟨j, hj, rfl, hB, hsk⟩ := hrel
      have HS := Lib.hid (And.intro hB hsk)
      clear hsk hB
      by_cases hlt : j < l2.length
      · have hlt1 : j < l1.length := by rw [HL.out]; exact hlt
        obtain ⟨x, HX⟩ : ∃ x, l1[j]? = some x := ⟨_, List.getElem?_eq_getElem hlt1⟩
        obtain ⟨y, HY⟩ : ∃ x, l2[j]? = some x := ⟨_, List.getElem?_eq_getElem hlt⟩
        obtain ⟨b1, o1, rfl, d1, d1', d1''⟩ := (H1.out.below HS.out.1) j x HX
        obtain ⟨b2, o2, rfl, d2, d2', d2''⟩ := (H2.out.below HS.out.1) j y HY
        have HXY := Lib.hid (And.intro HX HY)
        clear HX HY
        obtain ⟨x0, x1, x2⟩ := x
        obtain ⟨y0, y1, y2⟩ := y
        simp only at d1 d1' d1'' d2 d2' d2''
        have no : (x0, x1, x2) ≠ (y0, y1, y2) → ¬ l1 = l2 := fun hne e => hne (by
            have := HXY.out.1
            rw [e, HXY.out.2] at this
            exact (Option.some.inj this).symm)
        have HNO := Lib.hid no
        clear no
        by_cases h0 : x0 = y0
        · subst h0
          by_cases h1 : x1 = y1
          · subst h1
            by_cases h2 : x2 = y2
            · subst h2
              go_wp2_with fail
              go_quiet (fail)
              go_wp2_with fail
              go_roundw
              case rel =>
                refine ⟨j + 1, by omega, by go_num, below_drewN HS.out.1 _, fun j' z hj' => ?_⟩
                rcases Nat.lt_or_eq_of_le (Nat.le_of_lt_succ hj') with q | q
                · exact HS.out.2 j' z q
                · subst q; rw [HXY.out.1, HXY.out.2]
              case measure => simp [intOf]; omega
            · have q3 : (x2 == y2) = false := beq_eq_false_iff_ne.2 h2
              have HE := Lib.hid h2
              clear h2
              go_wp2_with fail
              go_quiet (fail)
              go_wp2_with fail
              go_ret
              refine ⟨?_, below_drewN HS.out.1 _⟩
              have := HNO.out (fun e => HE.out (by cases e; rfl))
              simp [this]
          · have q3 : (x1 == y1) = false := beq_eq_false_iff_ne.2 h1
            have q4 : ((x1 : Int) == (y1 : Int)) = false := beq_eq_false_iff_ne.2 (by omega)
            have HE := Lib.hid h1
            clear h1
            go_wp2_with fail
            go_quiet (fail)
            go_wp2_with fail
            go_ret
            refine ⟨?_, below_drewN HS.out.1 _⟩
            have := HNO.out (fun e => HE.out (by cases e; rfl))
            simp [this]
        · have q3 : (x0 == y0) = false := beq_eq_false_iff_ne.2 h0
          have q4 : ((x0 : Int) == (y0 : Int)) = false := beq_eq_false_iff_ne.2 (by omega)
          have HE := Lib.hid h0
          clear h0
          go_wp2_with fail
          go_quiet (fail)
          go_wp2_with fail
          go_ret
          refine ⟨?_, below_drewN HS.out.1 _⟩
          have := HNO.out (fun e => HE.out (by cases e; rfl))
          simp [this]
      · obtain rfl : j = l2.length := by omega
        go_wp2
        go_ret
        refine ⟨?_, HS.out.1⟩
        have : l1 = l2 := by
          apply List.ext_getElem?
          intro i
          rcases Nat.lt_or_ge i l2.length with q | q
          · have hq : i < l1.length := by rw [HL.out]; exact q
            have := (HS.out.2 i l1[i] q).1 (List.getElem?_eq_getElem hq)
            rw [this]; exact List.getElem?_eq_getElem hq
          · rw [List.getElem?_eq_none q, List.getElem?_eq_none (by rw [HL.out]; exact q)]
        simp [this]
  · have q1 : ((l1.length : Int) == l2.length) = false := by simp; omega
    have q2 : (l1.length == l2.length) = false := by simp; omega
    have q3 : decide (l1 = l2) = false := by simp; intro e; exact hl (by rw [e])
    rw [q3]
    clear hl
    go_enter Try.func16, Try.ntmps16
    go_wp2
    go_ret
    exact ⟨rfl, Below.refl _ _⟩
end Go.Sto
