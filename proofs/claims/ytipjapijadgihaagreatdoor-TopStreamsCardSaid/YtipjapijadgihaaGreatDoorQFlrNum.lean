/-
  Numbers in a block: number, put, kind; a block of its own (Box).
-/
import Derived.Laws.BitsAllLaws
import Derived.Test.YtipjapijadgihaaGreatDoorQFlrBase
set_option linter.unusedVariables false

namespace Go.Flr
open Go.Own Go.RowKit Go.Proofs

theorem or_num (x y : Nat) (hx : x < 256) (hy : y < 256) : bits BinOp.or IntKind.i64 ((x : Int) * 256) (y : Int) = ((x * 256 + y : Nat) : Int) := by
  have e : ((x : Int) * 256) = ((x * 256 : Nat) : Int) := by omega
  have h : (x * 256) ||| y = x * 256 + y := by
    have := Nat.shiftLeft_add_eq_or_of_lt (i := 8) (show y < 2 ^ 8 by omega) x
    rw [Nat.shiftLeft_eq] at this
    exact this.symm
  unfold bits
  simp only
  rw [e]
  have t : (BitVec.ofInt IntKind.i64.bits ((x * 256 : Nat) : Int) ||| BitVec.ofInt IntKind.i64.bits (y : Int)).toNat = x * 256 + y := by
    rw [BitVec.toNat_or, BitVec.ofInt_natCast, BitVec.ofInt_natCast, BitVec.toNat_ofNat, BitVec.toNat_ofNat]
    show (x * 256) % 2 ^ 64 ||| y % 2 ^ 64 = _
    rw [Nat.mod_eq_of_lt (by omega), Nat.mod_eq_of_lt (by omega), h]
  rw [t, IntWalk.i64_in _ (by omega)]

theorem u8_wrap (x : Int) : IntKind.u8.wrap x = x % 256 := rfl

/-- A block that lies alone in a block of the heap. -/
def Box (w : World) (b : Nat) (B : Bytes) : Prop := w.heap[b]? = some (.cells (bcells B).toArray 63 (0, 0))

section
variable {w : World}

theorem cell_byte {b o : Nat} {B : Bytes} (h : w.rangeAt b o (bcells B)) (i : Nat) (hi : i < B.length) : w.cell? ⟨b, o + i, none⟩ = some (.int .u8 (byteAt B i : Nat)) := by
  rw [byteAt_eq hi]; exact h i _ (bcells_get hi)

theorem Box.range {b : Nat} {B : Bytes} (h : Box w b B) : w.rangeAt b 0 (bcells B) := fun j v hv => by
  rw [Nat.zero_add]
  exact cell_at h (by simpa using hv)
theorem Box.lt {b : Nat} {B : Bytes} (h : Box w b B) : b < w.heap.size := heap_lt h
theorem Box.keep {w' : World} {b : Nat} {B : Bytes} (h : Box w b B) (e : w'.heap[b]? = w.heap[b]?) : Box w' b B := e.trans h
theorem Box.turn {w' : World} {S : Nat → Prop} {b : Nat} {B : Bytes} (h : Box w b B) (ht : Turn S w w') (hb : ¬ S b) : Box w' b B := h.keep (ht.block b h.lt hb)
theorem Box.set {b : Nat} {B : Bytes} (h : Box w b B) (i x : Nat) (hx : x < 256) : Box (w.setCell ⟨b, i, none⟩ (.int .u8 (x : Nat))) b (B.set i (UInt8.ofNat x)) := by
  unfold Box
  rw [heap_setCell_self _ h]
  have e : (UInt8.ofNat x).toNat = x := by simp; omega
  have : ((bcells B).toArray.setIfInBounds i (.int .u8 (x : Nat))) = (bcells (B.set i (UInt8.ofNat x))).toArray := by
    apply Array.toList_inj.1
    rw [Array.toList_setIfInBounds]
    simp only [bcells]
    rw [List.map_set, e]
  rw [this]
theorem Box.frozen {b : Nat} {B : Bytes} (h : Box w b B) (i : Nat) : w.frozen? ⟨b, i, none⟩ = false := frozen_at h
theorem Box.there {b : Nat} {B : Bytes} (h : Box w b B) : w.there b 0 B.length := fun j hj => by
  rw [Nat.zero_add]
  refine ⟨?_, h.frozen j⟩
  have := cell_byte h.range j hj
  rw [Nat.zero_add] at this
  rw [this]; rfl

set_option maxRecDepth 10000 in
set_option maxHeartbeats 1000000 in
theorem number_raw {b o i x y : Nat} (hx : w.cell? ⟨b, o + i, none⟩ = some (.int .u8 x)) (hy : w.cell? ⟨b, o + (i + 1), none⟩ = some (.int .u8 y)) (hi : i ≤ 126) (hx2 : x < 256) (hy2 : y < 256) :
    Calls Tryz.prog 59 #[.pointer (some ⟨b, o, none⟩), .int .i64 i] w fun e w' => e = .returned (.int .i64 ((x * 256 + y : Nat) : Int)) ∧ ∃ n, w' = w.drewN n := by
  go_enter Tryz.func59, Tryz.ntmps59
  go_upto_region 1 with fail
  go_quiet (fail)
  go_wp2_with fail
  go_ret
  exact ⟨congrArg (fun z => Ending.returned (Value.int .i64 z)) (or_num x y hx2 hy2), nq, rfl⟩

/-- What only reads. -/
def Reads (w w' : World) : Prop := ∃ n, w' = w.drewN n

theorem number_calls {b o : Nat} {B : Bytes} (h : w.rangeAt b o (bcells B)) (hB : B.length = 128) {i : Nat} (hi : i ≤ 126) :
    Calls Tryz.prog 59 #[.pointer (some ⟨b, o, none⟩), .int .i64 i] w fun e w' => e = .returned (.int .i64 (numAt B i : Nat)) ∧ ∃ n, w' = w.drewN n :=
  number_raw (cell_byte h i (by omega)) (cell_byte h (i + 1) (by omega)) hi (byteAt_lt _ _) (byteAt_lt _ _)

theorem kind_calls {b o : Nat} {B : Bytes} (h : w.rangeAt b o (bcells B)) (hB : B.length = 128) :
    Calls Tryz.prog 29 #[.pointer (some ⟨b, o, none⟩)] w fun e w' => e = .returned (.int .i64 (kindOf B : Nat)) ∧ w' = w := by
  have hc := cell_byte h 0 (by omega)
  rw [Nat.add_zero] at hc
  have hx := byteAt_lt B 0
  have e : kindOf B = byteAt B 0 := rfl
  rw [e]
  generalize byteAt B 0 = x at hc hx
  clear h e
  go_enter Tryz.func29, Tryz.ntmps29
  go_wp2_with fail
  go_ret
  exact ⟨rfl, rfl⟩

set_option maxRecDepth 10000 in
set_option maxHeartbeats 1000000 in
theorem put_calls {b : Nat} {B : Bytes} (h : Box w b B) (hB : B.length = 128) {i v : Nat} (hi : i ≤ 126) (hv : v < 65536) :
    Calls Tryz.prog 52 #[.pointer (some ⟨b, 0, none⟩), .int .i64 i, .int .i64 v] w fun e w' => e = .returned (.tuple #[]) ∧ Box w' b (putAt B i v) ∧ Turn (fun k => k = b) w w' ∧ w'.heap.size = w.heap.size := by
  have c0 := h.there i (by omega)
  have c1 := h.there (i + 1) (by omega)
  rw [Nat.zero_add] at c0 c1
  obtain ⟨c0, f0⟩ := c0
  obtain ⟨c1, f1⟩ := c1
  obtain ⟨u0, c0⟩ := Option.isSome_iff_exists.1 c0
  obtain ⟨u1, c1⟩ := Option.isSome_iff_exists.1 c1
  obtain ⟨x, hx⟩ : ∃ x, v / 256 = x := ⟨_, rfl⟩
  obtain ⟨y, hy⟩ : ∃ y, v % 256 = y := ⟨_, rfl⟩
  have hx2 : x < 256 := by omega
  have hy2 : y < 256 := by omega
  have HB := Lib.hid (And.intro h (And.intro hx hy))
  have ex : IntKind.u8.wrap ((v : Int) / 256) = (x : Int) := by rw [u8_wrap, ← hx]; omega
  have ey : IntKind.u8.wrap (v : Int) = (y : Int) := by rw [u8_wrap, ← hy]; omega
  clear h hx hy
  go_enter Tryz.func52, Tryz.ntmps52
  go_upto_region 0 with fail
  have hb0 := HB.out.1
  have hD : Box w.drew b B := hb0.keep rfl
  have h1 := hD.set i x hx2
  have h2 := h1.set (i + 1) y hy2
  have d1 : (w.drew.setCell ⟨b, i, none⟩ (.int .u8 (x : Nat))).cell? ⟨b, i + 1, none⟩ = some u1 := by rw [World.cell?_setCell_other _ _ _ _ (by simp)]; exact c1
  have g1 : (w.drew.setCell ⟨b, i, none⟩ (.int .u8 (x : Nat))).frozen? ⟨b, i + 1, none⟩ = false := h1.frozen _
  have H2 := Lib.hid h2
  have b1 : (i : Int) < 128 := by omega
  have b2 : (i : Int) + 1 < 128 := by omega
  have hw1 : IntKind.i64.wrap ((i : Int) + 1) = (i : Int) + 1 := IntWalk.i64_in _ (by omega)
  clear hb0 hD h1 h2
  refine wp_region_planG (aF := ?aF1) [12, 15] [[], [12], [12, 15]] 2 [(0, 0, 0), (1, 0, 0), (2, 0, 0), (2, 1, 1), (3, 0, 0), (3, 1, 1), (4, 0, 0), (4, 1, 1), (5, 0, 0), (6, 0, 0), (7, 0, 0), (8, 0, 0), (8, 1, 1), (9, 0, 0), (9, 1, 1), (10, 0, 0), (11, 0, 0), (12, 0, 1), (13, 0, 0), (13, 1, 1), (14, 1, 1), (15, 1, 2)]
    [w.drew, w.drew.setCell ⟨b, i, none⟩ (.int .u8 (x : Nat)), (w.drew.setCell ⟨b, i, none⟩ (.int .u8 (x : Nat))).setCell ⟨b, i + 1, none⟩ (.int .u8 (y : Nat))]
    [pt b, .int .i64 i, pt b, .int .i64 i, .int .i64 ((i : Int) + 1), .int .i64 v, .int .i64 ((v : Int) / 256), .int .u8 x, .int .i64 v, .int .u8 y, pt b, .pointer (some ⟨b, i, none⟩), undef, pt b, .pointer (some ⟨b, i + 1, none⟩), undef]
    (by kernel_rfl) (by kernel_rfl) ?hF1 rfl rfl rfl ?hob1 ?hend1
  case hF1 => simp only [putAll, Act.put]; go_simp; rfl
  case hob1 =>
    repeat' (first
      | exact oblsG_nil
      | (refine oblsG_cons rfl rfl rfl ?_ ?_)
      | (apply Runs.skip rfl rfl; (focus (go_simp; try exact rfl)); exact rfl)
      | (apply Runs.value rfl; (focus (go_simp; try exact rfl)); exact rfl))
  case hend1 =>
    go_wp2_with fail
    clear b1 b2 hw1 d1 g1 ex ey c0 f0 c1 f1
    go_end0
    refine ⟨rfl, ?_, ?_, by simp⟩
    · unfold putAt
      rw [HB.out.2.1, HB.out.2.2]
      exact H2.out
    · exact ((Turn.refl (fun k => k = b) w).drew.setCell (fun _ => rfl) _).setCell (fun _ => rfl) _
end
end Go.Flr
