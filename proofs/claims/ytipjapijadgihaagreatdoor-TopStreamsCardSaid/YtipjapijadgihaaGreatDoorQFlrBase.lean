/-
  The filer: bytes, strings, the library's Trim and Split at this seat.
-/
import Derived.Ground.NamesProg
import Derived.WalkKit
import Derived.Below
import Derived.IntWalk
import Derived.Shelf.Lay
import Derived.Shelf.Strings.SlTrimAscii
import Derived.Shelf.Strings.Split
import Derived.Deep.CutRange
import Derived.Deep.LoopGhost
import Derived.Deep.DeepCutAuto
import Derived.Deep.MidRow
import Derived.Deep.WholeRow
import Derived.BigQuiet
import Derived.Test.YtipjapijadgihaaGreatDoorRows
import Derived.Test.YtipjapijadgihaaGreatDoorQOwn
import Derived.Test.YtipjapijadgihaaGreatDoorQOwnRegion
import Derived.Test.YtipjapijadgihaaGreatDoorQOwnRegionG
import Derived.Test.YtipjapijadgihaaGreatDoorQOwnRegionH
set_option linter.unusedVariables false

namespace Go.Proofs
open Go.RowKit Go.Shelf

shelf_lay Lays.n160 Nm 160 at Tryz as Flr.laysTrim
shelf_lay Lays.n146 Nm 146 at Tryz as Flr.laysSplit
end Go.Proofs

namespace Go.Flr
open Go.Own Go.RowKit Go.Proofs

abbrev Bytes := List UInt8
abbrev pt (b : Nat) : Value := .pointer (some ⟨b, 0, none⟩)
abbrev bs (l : List UInt8) : ByteArray := ⟨l.toArray⟩
theorem bs_toList (l : Bytes) : (ByteArray.mk l.toArray).toList = l := by rw [Lib.toList_data]
theorem bs_size (l : Bytes) : (bs l).size = l.length := by simp [ByteArray.size]
theorem bs_data (l : Bytes) : (bs l).data.toList = l := rfl

def Env (w : World) : Prop := ∃ m, w.cell? ⟨0, 0, none⟩ = some (.int .i64 m)
theorem Env.turn {S : Nat → Prop} {w w' : World} (h : Env w) (ht : Turn S w w') (h0 : ¬ S 0) : Env w' := by
  obtain ⟨m, hm⟩ := h
  have hlt := World.block_lt_of_cell? w _ hm
  exact ⟨m, (ht.cell (p := ⟨0, 0, none⟩) h0 hlt).trans hm⟩

theorem turn_of_below {w w' : World} (h : Below w.heap.size w w') : Turn (fun _ => False) w w' := ⟨h.os, h.tape, h.output, h.size, fun k hk _ => h.block k hk⟩
theorem turn_drewN {S : Nat → Prop} {a b : World} (h : Turn S a b) (n : Nat) : Turn S a (b.drewN n) := ⟨h.os, h.tape, h.output, h.size, h.block⟩

section
variable {w : World}
theorem trim_c (s cutset : ByteArray) (hs : s.size ≤ 1000000) (hcs : cutset.size < 1000) (hascii : cutset.data.toList.all (fun b => decide (b.toNat < 128)) = true) :
    Calls Tryz.prog 77 #[.string s, .string cutset] w fun e w' => e = .returned (.string (bs (Lib.trimS s.data.toList cutset.data.toList))) ∧ Turn (fun _ => False) w w' :=
  (Any.strings_Trim_laid Flr.laysTrim (by kernel_rfl) s cutset w (by omega) (by omega) (ascii_of_all hascii)).mono fun _ _ ⟨he, hb⟩ => ⟨he, turn_of_below hb⟩
theorem split_c (s sep : ByteArray) (hs : s.size ≤ 1000000) (h1 : 1 ≤ sep.size) (hE : Env w) :
    Calls Tryz.prog 91 #[.string s, .string sep] w fun e w' => e = .returned (.slice (some ⟨w.heap.size, 0, none⟩) (Lib.countB s sep + 1) (Lib.countB s sep + 1)) ∧ w' = w.alloc (.cells ((Lib.splitB sep 0 (Lib.countB s sep) s).map Value.string).toArray 9) := by
  obtain ⟨m, hm⟩ := hE
  exact Any.strings_Split Flr.laysSplit (by kernel_rfl) s sep m w (by omega) hm h1
end

def bcells (b : Bytes) : List Value := b.map fun (x : UInt8) => Value.int .u8 (x.toNat : Int)
@[simp] theorem bcells_length (b : Bytes) : (bcells b).length = b.length := by simp [bcells]
theorem bcells_append (a b : Bytes) : bcells (a ++ b) = bcells a ++ bcells b := by simp [bcells]
theorem bcells_take (b : Bytes) (n : Nat) : (bcells b).take n = bcells (b.take n) := by simp [bcells]
theorem bcells_drop (b : Bytes) (n : Nat) : (bcells b).drop n = bcells (b.drop n) := by simp [bcells]
theorem bcells_one (b : Bytes) : ∀ u ∈ bcells b, u.oneCell' = true := by
  intro u hu
  obtain ⟨x, -, rfl⟩ := List.mem_map.1 hu
  rfl
theorem bcells_get {b : Bytes} {i : Nat} (h : i < b.length) : (bcells b)[i]? = some (.int .u8 ((b[i]).toNat : Int)) := by
  unfold bcells; rw [List.getElem?_map, List.getElem?_eq_getElem h]; rfl

theorem elemU8 : Elem Tryz.prog 5 1 1 (.int .u8 0) := Elem.mk' (by kernel_rfl) rfl (by decide)
theorem bytes_form {w : World} {v : Value} {xs : List Value} (h : SliceAt w 5 1 v xs) : ∃ a cap, v = .slice a xs.length cap ∧ xs.length ≤ cap ∧ cap ≤ maxLen := by
  obtain ⟨a, n, cap, rfl, hl, hn, hm, -⟩ := h.form
  rw [Nat.mul_one] at hl
  subst hl
  exact ⟨a, cap, rfl, hn, hm⟩
end Go.Flr

/-
  The filer, as pure things: a block is a list of bytes; numbers in it, its sum, its name.
-/
namespace Go.Flr

/-- The byte at a place (0 where there is none). -/
def byteAt (b : Bytes) (i : Nat) : Nat := (b.getD i 0).toNat
theorem byteAt_lt (b : Bytes) (i : Nat) : byteAt b i < 256 := (b.getD i 0).toNat_lt
theorem byteAt_eq {b : Bytes} {i : Nat} (h : i < b.length) : byteAt b i = (b[i]).toNat := by
  unfold byteAt; rw [List.getD_eq_getElem?_getD, List.getElem?_eq_getElem h]; rfl

/-- The number at a place. -/
def numAt (b : Bytes) (i : Nat) : Nat := byteAt b i * 256 + byteAt b (i + 1)
theorem numAt_lt (b : Bytes) (i : Nat) : numAt b i < 65536 := by
  have := byteAt_lt b i
  have := byteAt_lt b (i + 1)
  unfold numAt; omega
/-- A number is put to a place. -/
def putAt (b : Bytes) (i v : Nat) : Bytes := (b.set i (UInt8.ofNat (v / 256))).set (i + 1) (UInt8.ofNat (v % 256))
@[simp] theorem putAt_length (b : Bytes) (i v : Nat) : (putAt b i v).length = b.length := by simp [putAt]

theorem byteAt_set (b : Bytes) (i j : Nat) (x : UInt8) (hi : i < b.length) : byteAt (b.set i x) j = if j = i then x.toNat else byteAt b j := by
  unfold byteAt
  rw [List.getD_eq_getElem?_getD, List.getD_eq_getElem?_getD, List.getElem?_set]
  by_cases h : i = j
  · subst h; simp [hi]
  · rw [if_neg h, if_neg (fun e => h e.symm)]
theorem byteAt_putAt (b : Bytes) (i v j : Nat) (hi : i + 1 < b.length) (hv : v < 65536) :
    byteAt (putAt b i v) j = if j = i + 1 then v % 256 else if j = i then v / 256 else byteAt b j := by
  unfold putAt
  rw [byteAt_set _ _ _ _ (by simpa using hi), byteAt_set _ _ _ _ (by omega)]
  have e1 : (UInt8.ofNat (v / 256)).toNat = v / 256 := by simp; omega
  have e2 : (UInt8.ofNat (v % 256)).toNat = v % 256 := by simp
  rw [e1, e2]
theorem numAt_putAt (b : Bytes) (i v : Nat) (hi : i + 1 < b.length) (hv : v < 65536) : numAt (putAt b i v) i = v := by
  unfold numAt
  rw [byteAt_putAt _ _ _ _ hi hv, byteAt_putAt _ _ _ _ hi hv, if_neg (by omega), if_pos rfl, if_pos rfl]
  omega
theorem numAt_putAt_ne (b : Bytes) (i v j : Nat) (hi : i + 1 < b.length) (hv : v < 65536) (h : j + 1 < i ∨ i + 1 < j) : numAt (putAt b i v) j = numAt b j := by
  unfold numAt
  rw [byteAt_putAt _ _ _ _ hi hv, byteAt_putAt _ _ _ _ hi hv, if_neg (by omega), if_neg (by omega), if_neg (by omega), if_neg (by omega)]

/-- The sum of the first bytes. -/
def sumTo (b : Bytes) : Nat → Nat
  | 0 => 0
  | i + 1 => if i = 2 ∨ i = 3 then sumTo b i else (sumTo b i + (i + 1) * byteAt b i) % 65521
theorem sumTo_lt (b : Bytes) : ∀ i, sumTo b i < 65521
  | 0 => Nat.zero_lt_succ _
  | i + 1 => by
    unfold sumTo
    split
    · exact sumTo_lt b i
    · exact Nat.mod_lt _ (by decide)
def sumN (b : Bytes) : Nat := sumTo b b.length
theorem sumN_lt (b : Bytes) : sumN b < 65521 := sumTo_lt b _
/-- With its sum put into it. -/
def summedB (b : Bytes) : Bytes := putAt b 2 (sumN b)
@[simp] theorem summedB_length (b : Bytes) : (summedB b).length = b.length := by simp [summedB]

def kindOf (b : Bytes) : Nat := byteAt b 0
/-- The name in a block. -/
def nameOf (b : Bytes) : Bytes := (b.drop 11).take (min (byteAt b 10) 24)
/-- A name put into a block. -/
def setName (b s : Bytes) : Bytes := b.take 10 ++ [UInt8.ofNat s.length] ++ s ++ List.replicate (24 - s.length) 0 ++ b.drop 35
theorem setName_length (b s : Bytes) (hb : 35 ≤ b.length) (hs : s.length ≤ 24) : (setName b s).length = b.length := by
  unfold setName; simp; omega
def piecesN (n : Nat) : Nat := (n + 122) / 123
def dataOf (b : Bytes) : List Nat := (List.range (piecesN (numAt b 35))).map fun i => numAt b (37 + 2 * i)
def hashN (s : Bytes) : Nat := s.foldl (fun h x => (h * 31 + x.toNat) % 997) 0
def chainN (s : Bytes) : Nat := hashN s % 16
theorem chainN_lt (s : Bytes) : chainN s < 16 := Nat.mod_lt _ (by decide)
def zeroB (k : Nat) : Bytes := UInt8.ofNat k :: List.replicate 127 0
end Go.Flr

/-
  The filer: Sum.
-/
namespace Go.Flr
open Go.Own Go.RowKit Go.Proofs

section
variable {w : World}

set_option maxRecDepth 10000 in
set_option maxHeartbeats 1000000 in
theorem sum_calls {g o c : Nat} {d : Bytes} (hu : w.rangeAt g o (bcells d)) (hd : d.length ≤ 1000) : Calls Tryz.prog 53 #[.slice (some ⟨g, o, none⟩) d.length c] w fun e w' => e = .returned (.int .i64 (sumN d : Nat)) ∧ w' = w := by
  obtain ⟨N, hN⟩ : ∃ N, d.length = N := ⟨_, rfl⟩
  have HN := Lib.hid hN
  rw [hN] at hd ⊢
  have H := Lib.hid hu
  clear hu hN
  go_enter Tryz.func53, Tryz.ntmps53
  go_wp2_with fail
  go_loopg [3, 8] (N) (fun gk sv iv wr => ∃ (i s : Nat), gk + i = N ∧ iv = .int .i64 i ∧ sv = .int .i64 s ∧ s = sumTo d i ∧ wr = w)
  case atStart => exact ⟨0, 0, rfl, rfl, rfl, rfl, rfl⟩
  case round =>
    obtain ⟨i, s, hgk, rfl, rfl, hse, rfl⟩ := hrel
    have hs : s < 65521 := by rw [hse]; exact sumTo_lt d i
    have HSE := Lib.hid hse
    clear hse
    by_cases hi : i < N
    · have hN := HN.out
      have hcell := H.out i (.int .u8 ((d[i]'(by omega)).toNat : Int)) (bcells_get (by omega))
      have hx := (d[i]'(by omega)).toNat_lt
      have hbx := Lib.hid (byteAt_eq (b := d) (i := i) (by omega))
      generalize (d[i]'(by omega)).toNat = x at hcell hx hbx
      clear hN
      have hN2 : N ≤ 1000 := hd
      obtain ⟨y, hy⟩ : ∃ y, (i + 1) * x = y := ⟨_, rfl⟩
      have hy2 : y ≤ 1000 * 255 := by rw [← hy]; exact Nat.mul_le_mul (by omega) (by omega)
      have hyz : ((i : Int) + 1) * (x : Int) = (y : Int) := by rw [← hy]; push_cast; rfl
      by_cases e2 : i = 2
      · subst e2
        clear hyz hy2 hy
        go_wp2_with fail
        go_roundg (gk - 1)
        case rel => exact ⟨3, s, by omega, by rfl, rfl, by rw [HSE.out]; rfl, rfl⟩
        case measure => omega
      · by_cases e3 : i = 3
        · subst e3
          clear hyz hy2 hy
          go_wp2_with fail
          go_roundg (gk - 1)
          case rel => exact ⟨4, s, by omega, by rfl, rfl, by rw [HSE.out]; rfl, rfl⟩
          case measure => omega
        · have q2 : ((i : Int) != 2) = true := by simp; omega
          have q3 : ((i : Int) != 3) = true := by simp; omega
          have m1 : wrap64 ((i : Int) + 1) = (i : Int) + 1 := IntWalk.wrap64_in _ (by omega)
          have HM := Lib.hid (And.intro hyz (And.intro hy2 (And.intro hgk (And.intro hs (And.intro hx hN2)))))
          have HE := Lib.hid (And.intro e2 (And.intro e3 hy))
          clear hyz hy2 hgk hs hx hN2 e2 e3 hy
          go_upto_region 6 with fail
          clear q2 q3 m1 hcell
          go_wp2_with fail
          obtain ⟨hyz, hy2, hgk, hs, hx, hN2⟩ := HM.out
          have e : (wrap64 ((s : Int) + wrap64 (((i : Int) + 1) * wrap64 (x : Int)))).tmod 65521 = (((s + y) % 65521 : Nat) : Int) := by
            rw [IntWalk.wrap64_in (x : Int) (by omega), hyz, IntWalk.wrap64_in (y : Int) (by omega), IntWalk.wrap64_in _ (by omega), Int.tmod_eq_emod_of_nonneg (by omega)]
            omega
          go_roundg (gk - 1)
          case rel => exact ⟨i + 1, (s + y) % 65521, by omega, by rfl, by rw [e], by rw [← HE.out.2.2, HSE.out, ← hbx.out]; conv => rhs; unfold sumTo; rw [if_neg (by have := HE.out.1; have := HE.out.2.1; omega)], rfl⟩
          case measure => omega
    · go_wp2_with fail
      go_ret
      have e : sumN d = s := by unfold sumN; rw [HN.out, HSE.out]; congr 1; omega
      exact ⟨by rw [e]; rfl, rfl⟩
end
end Go.Flr
