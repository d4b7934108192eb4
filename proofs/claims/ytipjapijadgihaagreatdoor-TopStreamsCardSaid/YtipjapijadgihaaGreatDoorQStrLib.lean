/-
  The library's functions over strings that the streams and the filer call, by the shelf's contracts.
-/
import Derived.Ground.NamesProg
import Derived.WalkKit
import Derived.Below
import Derived.Shelf.Lay
import Derived.Shelf.Strings.SlTrimAscii
import Derived.Shelf.Strings.Prefix
import Derived.Shelf.Strings.Split
import Derived.Shelf.Strings.Cut
import Derived.Shelf.Strings.Search3
import Derived.Test.YtipjapijadgihaaGreatDoorRows
import Derived.Test.YtipjapijadgihaaGreatDoorQOwnMapStr
set_option linter.unusedVariables false

namespace Go.Proofs
open Go.RowKit Go.Shelf

shelf_lay Lays.n160 Nm 160 at Tryz as Str.laysTrim
shelf_lay Lays.n146 Nm 146 at Tryz as Str.laysSplit
shelf_lay Lays.n145 Nm 145 at Tryz as Str.laysCut
shelf_lay Lays.n144 Nm 144 at Tryz as Str.laysContains
shelf_lay Lays.n99 Nm 99 at Tryz as Str.laysHasPrefix
shelf_lay Lays.n100 Nm 100 at Tryz as Str.laysHasSuffix
end Go.Proofs

namespace Go.Str
open Go.Own Go.RowKit Go.Proofs

/-- The library's own variable (bytealg.MaxLen) is there: some int. -/
def Env (w : World) : Prop := ∃ m, w.cell? ⟨0, 0, none⟩ = some (.int .i64 m)
theorem Env.turn {S : Nat → Prop} {w w' : World} (h : Env w) (ht : Turn S w w') (h0 : ¬ S 0) : Env w' := by
  obtain ⟨m, hm⟩ := h
  have hlt := World.block_lt_of_cell? w _ hm
  exact ⟨m, (ht.cell (p := ⟨0, 0, none⟩) h0 hlt).trans hm⟩

theorem turn_of_below {w w' : World} (h : Below w.heap.size w w') : Turn (fun _ => False) w w' := ⟨h.os, h.tape, h.output, h.size, fun k hk _ => h.block k hk⟩
theorem turn_drewN {S : Nat → Prop} {a b : World} (h : Turn S a b) (n : Nat) : Turn S a (b.drewN n) := ⟨h.os, h.tape, h.output, h.size, h.block⟩

/-- bytes as a string. -/
abbrev bs (l : List UInt8) : ByteArray := ⟨l.toArray⟩

section
variable {w : World}
theorem trim_c (s cutset : ByteArray) (hs : s.size ≤ 1000000) (hcs : cutset.size < 1000) (hascii : cutset.data.toList.all (fun b => decide (b.toNat < 128)) = true) :
    Calls Tryz.prog 77 #[.string s, .string cutset] w fun e w' => e = .returned (.string (bs (Lib.trimS s.data.toList cutset.data.toList))) ∧ Turn (fun _ => False) w w' :=
  (Any.strings_Trim_laid Str.laysTrim (by kernel_rfl) s cutset w (by omega) (by omega) (ascii_of_all hascii)).mono fun _ _ ⟨he, hb⟩ => ⟨he, turn_of_below hb⟩
theorem cut_c (s sep : ByteArray) (hs : s.size ≤ 1000000) (hE : Env w) :
    Calls Tryz.prog 76 #[.string s, .string sep] w fun e w' => e = .returned (.tuple #[.string (bs (Lib.cut s.data.toList sep.data.toList).1), .string (bs (Lib.cut s.data.toList sep.data.toList).2.1), .bool (Lib.cut s.data.toList sep.data.toList).2.2]) ∧ Turn (fun _ => False) w w' := by
  obtain ⟨m, hm⟩ := hE
  exact (Any.strings_Cut Str.laysCut s sep m w (by omega) hm).mono fun _ _ ⟨he, n, hw⟩ => ⟨he, hw ▸ turn_drewN (Turn.refl _ w) n⟩
theorem contains_c (s sep : ByteArray) (hs : s.size ≤ 1000000) (hE : Env w) :
    Calls Tryz.prog 79 #[.string s, .string sep] w fun e w' => e = .returned (.bool (Lib.contains s.data.toList sep.data.toList)) ∧ w' = w := by
  obtain ⟨m, hm⟩ := hE
  exact Any.strings_Contains Str.laysContains s sep m w (by omega) hm
theorem prefix_c (s p : ByteArray) : Calls Tryz.prog 33 #[.string s, .string p] w fun e w' => e = .returned (.bool (Lib.hasPrefix s.data.toList p.data.toList)) ∧ w' = w :=
  Any.strings_HasPrefix Str.laysHasPrefix s p w
theorem suffix_c (s p : ByteArray) (hs : s.size ≤ 1000000) : Calls Tryz.prog 78 #[.string s, .string p] w fun e w' => e = .returned (.bool (Lib.hasSuffix s.data.toList p.data.toList)) ∧ w' = w :=
  Any.strings_HasSuffix Str.laysHasSuffix s p w (by omega)
theorem split_c (s sep : ByteArray) (hs : s.size ≤ 1000000) (h1 : 1 ≤ sep.size) (hE : Env w) :
    Calls Tryz.prog 91 #[.string s, .string sep] w fun e w' => e = .returned (.slice (some ⟨w.heap.size, 0, none⟩) (Lib.countB s sep + 1) (Lib.countB s sep + 1)) ∧ w' = w.alloc (.cells ((Lib.splitB sep 0 (Lib.countB s sep) s).map Value.string).toArray 9) := by
  obtain ⟨m, hm⟩ := hE
  exact Any.strings_Split Str.laysSplit (by kernel_rfl) s sep m w (by omega) hm h1
end
end Go.Str

/-
  Names of streams: cut, given, isShort, isPath, full, joined, walked. Strings are lists of bytes (bs).
-/
namespace Go.Str
open Go.Own Go.RowKit Go.Proofs

abbrev Bytes := List UInt8
def lRam : Bytes := [114, 97, 109]
def lPipe : Bytes := [112, 105, 112, 101]
def lNil : Bytes := [110, 105, 108]

theorem bs_toList (l : Bytes) : (ByteArray.mk l.toArray).toList = l := by rw [Lib.toList_data]
theorem bs_size (l : Bytes) : (bs l).size = l.length := by simp [ByteArray.size]
theorem bs_data (l : Bytes) : (bs l).data.toList = l := rfl

theorem bs_append (a b : Bytes) : bs a ++ bs b = bs (a ++ b) := by
  apply ByteArray.ext
  simp

section
variable {w : World}

/-- A name taken apart. -/
def cutL (l : Bytes) : Bytes × Bytes := if (Lib.cut l [58]).2.2 then ((Lib.cut l [58]).1, (Lib.cut l [58]).2.1) else (lRam, l)

theorem cut_calls (l : Bytes) (hs : l.length ≤ 1000000) (hE : Env w) : Calls Tryz.prog 37 #[.string (bs l)] w fun e w' => e = .returned (.tuple #[.string (bs (cutL l).1), .string (bs (cutL l).2)]) ∧ Turn (fun _ => False) w w' := by
  have hc := Lib.hid (cut_c (bs l) ⟨#[58]⟩ (by rw [bs_size]; exact hs) hE)
  cases hb : (Lib.cut l [58]).2.2 with
  | true =>
    have e : cutL l = ((Lib.cut l [58]).1, (Lib.cut l [58]).2.1) := by unfold cutL; rw [if_pos hb]
    have HB := Lib.hid hb
    rw [e]
    clear hE e hb
    go_enter Tryz.func37, Tryz.ntmps37
    go_wp2_with fail
    refine hc.out.mono ?_
    rintro e1 w1 ⟨rfl, T1⟩
    have hb' : (Lib.cut (bs l).data.toList (ByteArray.mk #[58]).data.toList).2.2 = true := HB.out
    rw [hb']
    have HT := Lib.hid T1
    clear T1 hb'
    go_wp2_with fail
    go_ret2
    exact ⟨rfl, HT.out⟩
  | false =>
    have e : cutL l = (lRam, l) := by unfold cutL; rw [hb]; rfl
    have HB := Lib.hid hb
    rw [e]
    clear hE e hb
    go_enter Tryz.func37, Tryz.ntmps37
    go_wp2_with fail
    refine hc.out.mono ?_
    rintro e1 w1 ⟨rfl, T1⟩
    have hb' : (Lib.cut (bs l).data.toList (ByteArray.mk #[58]).data.toList).2.2 = false := HB.out
    rw [hb']
    have HT := Lib.hid T1
    clear T1 hb'
    go_wp2_with fail
    go_ret2
    exact ⟨rfl, HT.out⟩

def givenL (l : Bytes) : Bool := l == lRam || l == lPipe || l == lNil

theorem given_calls (l : Bytes) : Calls Tryz.prog 39 #[.string (bs l)] w fun e w' => e = .returned (.bool (givenL l)) ∧ w' = w := by
  have hl := bs_toList l
  have hg : givenL l = (l == [114, 97, 109] || l == [112, 105, 112, 101] || l == [110, 105, 108]) := rfl
  have HG := Lib.hid hg
  clear hg
  by_cases h1 : l = [114, 97, 109]
  · have q1 : (l == [114, 97, 109]) = true := beq_iff_eq.2 h1
    rw [HG.out, q1]
    subst h1
    go_enter Tryz.func39, Tryz.ntmps39
    go_wp2_with fail
    go_ret
    exact ⟨rfl, rfl⟩
  · by_cases h2 : l = [112, 105, 112, 101]
    · subst h2
      go_enter Tryz.func39, Tryz.ntmps39
      go_wp2_with fail
      go_ret
      exact ⟨rfl, rfl⟩
    · by_cases h3 : l = [110, 105, 108]
      · subst h3
        go_enter Tryz.func39, Tryz.ntmps39
        go_wp2_with fail
        go_ret
        exact ⟨rfl, rfl⟩
      · have q1 : (l == [114, 97, 109]) = false := beq_eq_false_iff_ne.2 h1
        have q2 : (l == [112, 105, 112, 101]) = false := beq_eq_false_iff_ne.2 h2
        have q3 : (l == [110, 105, 108]) = false := beq_eq_false_iff_ne.2 h3
        rw [HG.out, q1, q2, q3]
        clear h1 h2 h3
        go_enter Tryz.func39, Tryz.ntmps39
        go_wp2_with fail
        go_ret
        exact ⟨rfl, rfl⟩

/-- The letters that a name of an assignment may have; of a path. -/
def lLow : Bytes := [97, 98, 99, 100, 101, 102, 103, 104, 105, 106, 107, 108, 109, 110, 111, 112, 113, 114, 115, 116, 117, 118, 119, 120, 121, 122]
def lPath : Bytes := lLow ++ [48, 49, 50, 51, 52, 53, 54, 55, 56, 57, 46, 45, 95, 47]
def isShortL (l : Bytes) : Bool := decide (1 ≤ l.length) && decide (l.length ≤ 8) && (Lib.trimS l lLow == [])

theorem isShort_calls (l : Bytes) (h : isShortL l = true) : Calls Tryz.prog 38 #[.string (bs l)] w fun e w' => e = .returned (.bool true) ∧ Turn (fun _ => False) w w' := by
  unfold isShortL at h
  rw [Bool.and_eq_true, Bool.and_eq_true, decide_eq_true_eq, decide_eq_true_eq, beq_iff_eq] at h
  obtain ⟨⟨h1, h2⟩, h3⟩ := h
  have hz := bs_size l
  have hc := Lib.hid (trim_c (w := w) (bs l) (bs lLow) (by rw [bs_size]; omega) (by decide) (by decide))
  have H3 := Lib.hid h3
  have q1 : decide (1 ≤ (l.length : Int)) = true := decide_eq_true (by omega)
  have q2 : decide ((l.length : Int) ≤ 8) = true := decide_eq_true (by omega)
  clear h3
  go_enter Tryz.func38, Tryz.ntmps38
  go_wp2_with fail
  refine hc.out.mono ?_
  rintro e1 w1 ⟨rfl, T1⟩
  have HT := Lib.hid T1
  have e3 : Lib.trimS (bs l).data.toList (bs lLow).data.toList = [] := H3.out
  rw [e3]
  clear T1 e3
  go_wp2_with fail
  go_ret
  exact ⟨rfl, HT.out⟩

def isPathL (p l : Bytes) : Bool :=
  (if p = lRam then !Lib.hasPrefix l [47] && !Lib.hasSuffix l [47] && !Lib.contains l [47, 47] else !Lib.contains l [47]) &&
    (decide (1 ≤ l.length) && decide (l.length ≤ 24) && (Lib.trimS l lPath == []))

theorem isPath_tail {l : Bytes} (h : (decide (1 ≤ l.length) && decide (l.length ≤ 24) && (Lib.trimS l lPath == [])) = true) : 1 ≤ l.length ∧ l.length ≤ 24 ∧ Lib.trimS l lPath = [] := by
  rw [Bool.and_eq_true, Bool.and_eq_true, decide_eq_true_eq, decide_eq_true_eq, beq_iff_eq] at h
  exact ⟨h.1.1, h.1.2, h.2⟩

theorem isPath_len {p l : Bytes} (h : isPathL p l = true) : l.length ≤ 24 := by
  unfold isPathL at h
  rw [Bool.and_eq_true] at h
  exact (isPath_tail h.2).2.1

set_option maxHeartbeats 1000000 in
theorem isPath_ram (l : Bytes) (h : isPathL lRam l = true) (hE : Env w) : Calls Tryz.prog 40 #[.string (bs lRam), .string (bs l)] w fun e w' => e = .returned (.bool true) ∧ Turn (fun _ => False) w w' := by
  unfold isPathL at h
  rw [if_pos rfl, Bool.and_eq_true, Bool.and_eq_true, Bool.and_eq_true, Bool.not_eq_true', Bool.not_eq_true', Bool.not_eq_true'] at h
  obtain ⟨⟨⟨p1, p2⟩, p3⟩, h⟩ := h
  obtain ⟨h1, h2, h3⟩ := isPath_tail h
  have hz := bs_size l
  have ha := Lib.hid (prefix_c (w := w) (bs l) ⟨#[47]⟩)
  have hb := Lib.hid (suffix_c (w := w) (bs l) ⟨#[47]⟩ (by rw [bs_size]; omega))
  have hd := Lib.hid (contains_c (w := w) (bs l) ⟨#[47, 47]⟩ (by rw [bs_size]; omega) hE)
  have hc := Lib.hid (trim_c (w := w) (bs l) (bs lPath) (by rw [bs_size]; omega) (by decide) (by decide))
  have H3 := Lib.hid (And.intro h3 (And.intro p1 (And.intro p2 p3)))
  have q1 : decide (1 ≤ (l.length : Int)) = true := decide_eq_true (by omega)
  have q2 : decide ((l.length : Int) ≤ 24) = true := decide_eq_true (by omega)
  clear h3 p1 p2 p3 h hE
  go_enter Tryz.func40, Tryz.ntmps40
  go_wp2_with fail
  refine ha.out.mono ?_
  rintro e1 w1 ⟨rfl, rfl⟩
  have e1 : Lib.hasPrefix (bs l).data.toList (ByteArray.mk #[47]).data.toList = false := H3.out.2.1
  rw [e1]
  clear e1
  go_wp2_with fail
  refine hb.out.mono ?_
  rintro e2 w2 ⟨rfl, rfl⟩
  have e2 : Lib.hasSuffix (bs l).data.toList (ByteArray.mk #[47]).data.toList = false := H3.out.2.2.1
  rw [e2]
  clear e2
  go_wp2_with fail
  refine hd.out.mono ?_
  rintro e3 w3 ⟨rfl, rfl⟩
  have e3 : Lib.contains (bs l).data.toList (ByteArray.mk #[47, 47]).data.toList = false := H3.out.2.2.2
  rw [e3]
  clear e3
  go_wp2_with fail
  refine hc.out.mono ?_
  rintro e4 w4 ⟨rfl, T4⟩
  have HT := Lib.hid T4
  have e4 : Lib.trimS (bs l).data.toList (bs lPath).data.toList = [] := H3.out.1
  rw [e4]
  clear T4 e4
  go_wp2_with fail
  go_ret
  exact ⟨rfl, HT.out⟩

set_option maxHeartbeats 1000000 in
theorem isPath_pipe (l : Bytes) (h : isPathL lPipe l = true) (hE : Env w) : Calls Tryz.prog 40 #[.string (bs lPipe), .string (bs l)] w fun e w' => e = .returned (.bool true) ∧ Turn (fun _ => False) w w' := by
  unfold isPathL at h
  rw [if_neg (by decide), Bool.and_eq_true, Bool.not_eq_true'] at h
  obtain ⟨p3, h⟩ := h
  obtain ⟨h1, h2, h3⟩ := isPath_tail h
  have hz := bs_size l
  have hd := Lib.hid (contains_c (w := w) (bs l) ⟨#[47]⟩ (by rw [bs_size]; omega) hE)
  have hc := Lib.hid (trim_c (w := w) (bs l) (bs lPath) (by rw [bs_size]; omega) (by decide) (by decide))
  have H3 := Lib.hid (And.intro h3 p3)
  have q1 : decide (1 ≤ (l.length : Int)) = true := decide_eq_true (by omega)
  have q2 : decide ((l.length : Int) ≤ 24) = true := decide_eq_true (by omega)
  clear h3 p3 h hE
  go_enter Tryz.func40, Tryz.ntmps40
  go_wp2_with fail
  refine hd.out.mono ?_
  rintro e3 w3 ⟨rfl, rfl⟩
  have e3 : Lib.contains (bs l).data.toList (ByteArray.mk #[47]).data.toList = false := H3.out.2
  rw [e3]
  clear e3
  go_wp2_with fail
  refine hc.out.mono ?_
  rintro e4 w4 ⟨rfl, T4⟩
  have HT := Lib.hid T4
  have e4 : Lib.trimS (bs l).data.toList (bs lPath).data.toList = [] := H3.out.1
  rw [e4]
  clear T4 e4
  go_wp2_with fail
  go_ret
  exact ⟨rfl, HT.out⟩

/-- A full name in ram or of a pipe. -/
theorem full_calls (p l : Bytes) (hp : p = lRam ∨ p = lPipe) (h : isPathL p l = true) (hE : Env w) : Calls Tryz.prog 71 #[.string (bs p), .string (bs l)] w fun e w' => e = .returned (.bool true) ∧ Turn (fun _ => False) w w' := by
  have hne : l ≠ [] := fun e => by
    subst e
    rcases hp with rfl | rfl <;> revert h <;> decide
  have q0 : (l == []) = false := beq_eq_false_iff_ne.2 hne
  have hl := bs_toList l
  rcases hp with rfl | rfl
  · have hc := Lib.hid (isPath_ram l h hE)
    clear h hE hne
    go_enter Tryz.func71, Tryz.ntmps71
    go_wp2_with fail
    refine hc.out.mono ?_
    rintro e4 w4 ⟨rfl, T4⟩
    have HT := Lib.hid T4
    clear T4
    go_wp2_with fail
    go_ret
    exact ⟨rfl, HT.out⟩
  · have hc := Lib.hid (isPath_pipe l h hE)
    clear h hE hne
    go_enter Tryz.func71, Tryz.ntmps71
    go_wp2_with fail
    refine hc.out.mono ?_
    rintro e4 w4 ⟨rfl, T4⟩
    have HT := Lib.hid T4
    clear T4
    go_wp2_with fail
    go_ret
    exact ⟨rfl, HT.out⟩

/-- What an assignment means, and a path behind it. -/
theorem joined_calls (t l : Bytes) (ht : Lib.hasSuffix t [58] = false) (hne : l ≠ []) (hs : t.length ≤ 100) (hs2 : l.length ≤ 100) :
    Calls Tryz.prog 70 #[.string (bs t), .string (bs l)] w fun e w' => e = .returned (.string (bs (t ++ [47] ++ l))) ∧ w' = w := by
  have q0 : (l == []) = false := beq_eq_false_iff_ne.2 hne
  have hl := bs_toList l
  have hb := Lib.hid (suffix_c (w := w) (bs t) ⟨#[58]⟩ (by rw [bs_size]; omega))
  have H := Lib.hid ht
  have z1 := bs_size t
  have z2 := bs_size l
  clear ht hne
  go_enter Tryz.func70, Tryz.ntmps70
  go_wp2_with fail
  refine hb.out.mono ?_
  rintro e2 w2 ⟨rfl, rfl⟩
  have e2 : Lib.hasSuffix (bs t).data.toList (ByteArray.mk #[58]).data.toList = false := H.out
  rw [e2]
  clear e2
  go_wp2_with fail
  go_ret
  refine ⟨?_, rfl⟩
  rw [show ({ data := #[47] } : ByteArray) = bs [47] from rfl, bs_append, bs_append]
  rfl
end
end Go.Str
