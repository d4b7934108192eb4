/-
  A reader's number, walked.
-/
import Derived.Laws.BitsAllLaws
import Derived.Test.YtahfoejffibahaaQStoEq
set_option linter.unusedVariables false

namespace Go.Sto
open Go.Own Go.RowKit Go.Proofs

/-- A number of eight bytes, the highest one first. -/
def dec (l : List Int) : Int := l.foldl (fun v c => wrap64 (v * 256 + c)) 0
theorem dec_snoc (l : List Int) (c : Int) : dec (l ++ [c]) = wrap64 (dec l * 256 + c) := by simp [dec]

/-- What a reader's number tells and leaves: the number, the bytes that are left, whether they were too few. -/
def num (l : List Int) (sh : Bool) : Int × List Int × Bool := if l.length < 8 then (0, l, true) else (dec (l.take 8), l.drop 8, sh)

theorem or64 (y z : Int) (h0 : 0 ≤ z) (h1 : z < 256) : bits .or .i64 (wrap64 (y * 256)) z = wrap64 (y * 256 + z) := by
  obtain ⟨m, rfl⟩ := Int.eq_ofNat_of_zero_le h0
  show IntKind.i64.wrap ((BitVec.ofInt 64 (wrap64 (y * 256)) ||| BitVec.ofInt 64 (m : Int)).toNat : Int) = _
  rw [BitVec.toNat_or, ofInt_u64 m (by omega)]
  have e : (BitVec.ofInt 64 (wrap64 (y * 256))).toNat = ((y * 256) % 18446744073709551616).toNat := by
    rw [BitVec.toNat_ofInt]
    unfold wrap64
    have : ((2 ^ 64 : Nat) : Int) = 18446744073709551616 := by decide
    rw [this]
    omega
  obtain ⟨A, hA⟩ : ∃ A, ((y * 256) % 18446744073709551616).toNat = A := ⟨_, rfl⟩
  have hA2 : (A : Int) = (y * 256) % 18446744073709551616 := by omega
  rw [e, hA, nat_join 8 A m (by omega) (by omega)]
  have e2 : IntKind.i64.wrap ((A + m : Nat) : Int) = wrap64 ((A + m : Nat) : Int) := by
    unfold wrap64; exact IntKind.wrap_i64 _
  rw [e2]
  unfold wrap64
  omega

/-- The bytes of a row lie where the slice says. -/
def BytesC (w : World) (b : Nat) (a : Option Addr) (l : List Int) : Prop := ∀ k x, l[k]? = some x → ∃ off, a = some ⟨b, off, none⟩ ∧ w.cell? ⟨b, off + k, none⟩ = some (.int .u8 x)

structure RD (rb bb : Nat) (a : Option Addr) (cap : Nat) (sh : Bool) (l : List Int) (w : World) : Prop where
  blk : w.heap[rb]? = some (.cells #[.slice a l.length cap, .bool sh] 100 (0, 0))
  bytes : BytesC w bb a l
  le : l.length ≤ cap
  small : l.length ≤ 1000000000
  byte : ∀ x ∈ l, 0 ≤ x ∧ x < 256

theorem RD.ne {rb bb : Nat} {a : Option Addr} {cap : Nat} {sh : Bool} {l : List Int} {w : World} (h : RD rb bb a cap sh l w) {off k : Nat} {x : Int} (hc : w.cell? ⟨bb, off + k, none⟩ = some (.int .u8 x)) : bb ≠ rb := by
  rintro rfl
  simp only [World.cell?, h.blk] at hc
  match hk : off + k, hc with
  | 0, hc => simp at hc
  | 1, hc => simp at hc
  | n + 2, hc => simp at hc

/-- Another world in which only the reader's own block has turned. -/
theorem BytesC.turn {w w' : World} {T : Nat → Prop} {b : Nat} {a : Option Addr} {l : List Int} (h : BytesC w b a l) (hne : l ≠ [] → ¬ T b) (t : Turn T w w') : BytesC w' b a l := fun k x hk => by
  obtain ⟨off, e, c⟩ := h k x hk
  exact ⟨off, e, (t.cell (p := ⟨b, off + k, none⟩) (hne (by rintro rfl; simp at hk)) (cell_lt c)).trans c⟩

theorem RD.ne' {rb bb : Nat} {a : Option Addr} {cap : Nat} {sh : Bool} {l : List Int} {w : World} (h : RD rb bb a cap sh l w) (hl : l ≠ []) : bb ≠ rb := by
  cases l with
  | nil => exact absurd rfl hl
  | cons x l =>
    obtain ⟨off, -, c⟩ := h.bytes 0 x rfl
    exact h.ne c

def NumPost (rb bb : Nat) (sh : Bool) (l : List Int) (w : World) (e : Ending) (w' : World) : Prop :=
  e = .returned (.int .i64 (num l sh).1) ∧ (∃ a' cap', RD rb bb a' cap' (num l sh).2.2 (num l sh).2.1 w') ∧ Turn (fun k => k = rb) w w' ∧ w'.heap.size = w.heap.size ∧ KeepsOthers w w'

theorem number_short {rb bb : Nat} {a : Option Addr} {cap : Nat} {sh : Bool} {l : List Int} {w : World} (h : RD rb bb a cap sh l w) (hl : l.length < 8) :
    Calls Try.prog 53 #[.pointer (some ⟨rb, 0, none⟩)] w (NumPost rb bb sh l w) := by
  have c0 := cell_at h.blk (i := 0) rfl
  have c1 := cell_at h.blk (i := 1) rfl
  have f1 : w.frozen? ⟨rb, 1, none⟩ = false := frozen_at h.blk
  have q1 : decide ((l.length : Int) < 8) = true := by simp; omega
  have q2 : decide (l.length < 8) = true := by simp; omega
  have H := Lib.hid (And.intro h hl)
  clear h hl
  go_enter Try.func53, Try.ntmps53
  go_wp2
  go_ret
  have t : Turn (fun k => k = rb) w (w.setCell ⟨rb, 1, none⟩ (.bool true)) := (Turn.refl (fun k => k = rb) w).setCell (p := ⟨rb, 1, none⟩) (fun _ => rfl) _
  have e : num l sh = (0, l, true) := by unfold num; rw [if_pos H.out.2]
  unfold NumPost
  rw [e]
  refine ⟨rfl, ⟨a, cap, { blk := ?_, bytes := H.out.1.bytes.turn H.out.1.ne' t, le := H.out.1.le, small := H.out.1.small, byte := H.out.1.byte }⟩, t, by simp, KeepsOthers.setCell _ _ _⟩
  rw [heap_setCell_self _ H.out.1.blk]
  rfl

set_option maxRecDepth 100000 in
set_option maxHeartbeats 2000000 in
theorem number_long {rb bb : Nat} {a : Option Addr} {cap : Nat} {sh : Bool} {l : List Int} {w : World} (h : RD rb bb a cap sh l w) (hl : 8 ≤ l.length) :
    Calls Try.prog 53 #[.pointer (some ⟨rb, 0, none⟩)] w (NumPost rb bb sh l w) := by
  have c0 := cell_at h.blk (i := 0) rfl
  have c1 := cell_at h.blk (i := 1) rfl
  have f0 : w.frozen? ⟨rb, 0, none⟩ = false := frozen_at h.blk
  have q1 : decide ((l.length : Int) < 8) = false := by simp; omega
  have q2 : decide (l.length < 8) = false := by simp; omega
  have hle := h.le
  have hc8 : 8 ≤ cap := by omega
  obtain ⟨x0, hx0⟩ : ∃ x, l[0]? = some x := ⟨_, List.getElem?_eq_getElem (by omega)⟩
  obtain ⟨off, rfl, -⟩ := h.bytes 0 x0 hx0
  have H := Lib.hid h
  clear h hx0
  go_enter Try.func53, Try.ntmps53
  go_wp2
  go_loop [3, 21] (fun v i => ∃ (k : Nat), k ≤ 8 ∧ i = .int .i64 k ∧ v = .int .i64 (dec (l.take k))) (fun _ i => 8 - (intOf i).toNat)
  case atStart => exact ⟨0, by omega, rfl, rfl⟩
  case round =>
    obtain ⟨k, hk, rfl, rfl⟩ := hrel
    by_cases hlt : k < 8
    · obtain ⟨z, hz⟩ : ∃ x, l[k]? = some x := ⟨_, List.getElem?_eq_getElem (by omega)⟩
      obtain ⟨off', e, hc⟩ := H.out.bytes k z hz
      cases e
      obtain ⟨z0, z1⟩ := H.out.byte z (List.mem_of_getElem? hz)
      have hd : dec (l.take (k + 1)) = wrap64 (dec (l.take k) * 256 + z) := by rw [List.take_add_one, hz]; exact dec_snoc _ _
      have HD := Lib.hid hd
      have ho := or64 (dec (l.take k)) z z0 z1
      have HO := Lib.hid ho
      clear hd ho hz
      obtain ⟨y, hy⟩ : ∃ y, dec (l.take k) = y := ⟨_, rfl⟩
      rw [hy] at HD HO ⊢
      clear hy
      go_wp2
      go_round
      case rel => exact ⟨k + 1, by omega, by go_num, by rw [HD.out, ← HO.out]⟩
      case measure => simp [intOf]; omega
    · obtain rfl : k = 8 := by omega
      obtain ⟨v, hv⟩ : ∃ v, dec (l.take 8) = v := ⟨_, rfl⟩
      have HV := Lib.hid hv
      rw [hv]
      clear hv hlt
      have e : num l sh = (dec (l.take 8), l.drop 8, sh) := by unfold num; rw [if_neg (by omega)]
      by_cases hcap : cap = 8
      · have hl8 : l.length = 8 := by omega
        subst hcap
        go_wp2
        go_ret
        have t : Turn (fun k => k = rb) w (w.setCell ⟨rb, 0, none⟩ (.slice (some ⟨bb, off, none⟩) 0 0)) := (Turn.refl (fun k => k = rb) w).setCell (p := ⟨rb, 0, none⟩) (fun _ => rfl) _
        unfold NumPost
        rw [e]
        have hd : l.drop 8 = [] := List.drop_eq_nil_of_le (by omega)
        refine ⟨by have hv := HV.out; subst hv; rfl, ⟨some ⟨bb, off, none⟩, 0, { blk := ?_, bytes := fun k x hk => ?_, le := ?_, small := ?_, byte := fun x hx => ?_ }⟩, t, by simp, KeepsOthers.setCell _ _ _⟩
        · rw [heap_setCell_self _ H.out.blk, hd]; rfl
        · rw [hd] at hk; simp at hk
        · rw [hd]; simp
        · rw [hd]; simp
        · rw [hd] at hx; cases hx
      · go_wp2
        go_ret
        have t : Turn (fun k => k = rb) w (w.setCell ⟨rb, 0, none⟩ (.slice (some ⟨bb, off + 8, none⟩) (l.length - 8) (cap - 8))) := (Turn.refl (fun k => k = rb) w).setCell (p := ⟨rb, 0, none⟩) (fun _ => rfl) _
        unfold NumPost
        rw [e]
        refine ⟨by have hv := HV.out; subst hv; rfl, ⟨some ⟨bb, off + 8, none⟩, cap - 8, { blk := ?_, bytes := fun k x hk => ?_, le := ?_, small := ?_, byte := fun x hx => ?_ }⟩, t, by simp, KeepsOthers.setCell _ _ _⟩
        · rw [heap_setCell_self _ H.out.blk, List.length_drop]; rfl
        · rw [List.getElem?_drop] at hk
          obtain ⟨off', e', hc⟩ := H.out.bytes.turn H.out.ne' t (8 + k) x hk
          cases e'
          exact ⟨off + 8, rfl, by rw [Nat.add_assoc]; exact hc⟩
        · rw [List.length_drop]; omega
        · rw [List.length_drop]; have := H.out.small; omega
        · exact H.out.byte x (List.mem_of_mem_drop hx)

theorem number_calls {rb bb : Nat} {a : Option Addr} {cap : Nat} {sh : Bool} {l : List Int} {w : World} (h : RD rb bb a cap sh l w) :
    Calls Try.prog 53 #[.pointer (some ⟨rb, 0, none⟩)] w (NumPost rb bb sh l w) := by
  rcases Nat.lt_or_ge l.length 8 with hl | hl
  · exact number_short h hl
  · exact number_long h hl
end Go.Sto

/-
  The reference reader's number, walked.
-/
namespace Go.Sto
open Go.Own Go.RowKit Go.Proofs

structure RDr (rb bb : Nat) (a : Option Addr) (cap : Nat) (sh : Bool) (l : List Int) (w : World) : Prop where
  blk : w.heap[rb]? = some (.cells #[.slice a l.length cap, .bool sh] 106 (0, 0))
  bytes : BytesC w bb a l
  le : l.length ≤ cap
  small : l.length ≤ 1000000000
  byte : ∀ x ∈ l, 0 ≤ x ∧ x < 256

theorem RDr.ne {rb bb : Nat} {a : Option Addr} {cap : Nat} {sh : Bool} {l : List Int} {w : World} (h : RDr rb bb a cap sh l w) {off k : Nat} {x : Int} (hc : w.cell? ⟨bb, off + k, none⟩ = some (.int .u8 x)) : bb ≠ rb := by
  rintro rfl
  simp only [World.cell?, h.blk] at hc
  match hk : off + k, hc with
  | 0, hc => simp at hc
  | 1, hc => simp at hc
  | n + 2, hc => simp at hc

theorem RDr.ne' {rb bb : Nat} {a : Option Addr} {cap : Nat} {sh : Bool} {l : List Int} {w : World} (h : RDr rb bb a cap sh l w) (hl : l ≠ []) : bb ≠ rb := by
  cases l with
  | nil => exact absurd rfl hl
  | cons x l =>
    obtain ⟨off, -, c⟩ := h.bytes 0 x rfl
    exact h.ne c

def RNumPost (rb bb : Nat) (sh : Bool) (l : List Int) (w : World) (e : Ending) (w' : World) : Prop :=
  e = .returned (.int .i64 (num l sh).1) ∧ (∃ a' cap', RDr rb bb a' cap' (num l sh).2.2 (num l sh).2.1 w') ∧ Turn (fun k => k = rb) w w' ∧ w'.heap.size = w.heap.size ∧ KeepsOthers w w'

theorem rnumber_short {rb bb : Nat} {a : Option Addr} {cap : Nat} {sh : Bool} {l : List Int} {w : World} (h : RDr rb bb a cap sh l w) (hl : l.length < 8) :
    Calls Try.prog 55 #[.pointer (some ⟨rb, 0, none⟩)] w (RNumPost rb bb sh l w) := by
  have c0 := cell_at h.blk (i := 0) rfl
  have c1 := cell_at h.blk (i := 1) rfl
  have f1 : w.frozen? ⟨rb, 1, none⟩ = false := frozen_at h.blk
  have q1 : decide ((l.length : Int) < 8) = true := by simp; omega
  have q2 : decide (l.length < 8) = true := by simp; omega
  have H := Lib.hid (And.intro h hl)
  clear h hl
  go_enter Try.func55, Try.ntmps55
  go_wp2
  go_ret
  have t : Turn (fun k => k = rb) w (w.setCell ⟨rb, 1, none⟩ (.bool true)) := (Turn.refl (fun k => k = rb) w).setCell (p := ⟨rb, 1, none⟩) (fun _ => rfl) _
  have e : num l sh = (0, l, true) := by unfold num; rw [if_pos H.out.2]
  unfold RNumPost
  rw [e]
  refine ⟨rfl, ⟨a, cap, { blk := ?_, bytes := H.out.1.bytes.turn H.out.1.ne' t, le := H.out.1.le, small := H.out.1.small, byte := H.out.1.byte }⟩, t, by simp, KeepsOthers.setCell _ _ _⟩
  rw [heap_setCell_self _ H.out.1.blk]
  rfl

set_option maxRecDepth 100000 in
set_option maxHeartbeats 2000000 in
theorem rnumber_long {rb bb : Nat} {a : Option Addr} {cap : Nat} {sh : Bool} {l : List Int} {w : World} (h : RDr rb bb a cap sh l w) (hl : 8 ≤ l.length) :
    Calls Try.prog 55 #[.pointer (some ⟨rb, 0, none⟩)] w (RNumPost rb bb sh l w) := by
  have c0 := cell_at h.blk (i := 0) rfl
  have c1 := cell_at h.blk (i := 1) rfl
  have f0 : w.frozen? ⟨rb, 0, none⟩ = false := frozen_at h.blk
  have q1 : decide ((l.length : Int) < 8) = false := by simp; omega
  have q2 : decide (l.length < 8) = false := by simp; omega
  have hle := h.le
  have hc8 : 8 ≤ cap := by omega
  obtain ⟨x0, hx0⟩ : ∃ x, l[0]? = some x := ⟨_, List.getElem?_eq_getElem (by omega)⟩
  obtain ⟨off, rfl, -⟩ := h.bytes 0 x0 hx0
  have H := Lib.hid h
  clear h hx0
  go_enter Try.func55, Try.ntmps55
  go_wp2
  go_loop [3, 4] (fun v i => ∃ (k : Nat), k ≤ 8 ∧ i = .int .i64 k ∧ v = .int .i64 (dec (l.take k))) (fun _ i => 8 - (intOf i).toNat)
  case atStart => exact ⟨0, by omega, rfl, rfl⟩
  case round =>
    obtain ⟨k, hk, rfl, rfl⟩ := hrel
    by_cases hlt : k < 8
    · obtain ⟨z, hz⟩ : ∃ x, l[k]? = some x := ⟨_, List.getElem?_eq_getElem (by omega)⟩
      obtain ⟨off', e, hc⟩ := H.out.bytes k z hz
      cases e
      obtain ⟨z0, z1⟩ := H.out.byte z (List.mem_of_getElem? hz)
      have hd : dec (l.take (k + 1)) = wrap64 (dec (l.take k) * 256 + z) := by rw [List.take_add_one, hz]; exact dec_snoc _ _
      have HD := Lib.hid hd
      have ho := or64 (dec (l.take k)) z z0 z1
      have HO := Lib.hid ho
      clear hd ho hz
      obtain ⟨y, hy⟩ : ∃ y, dec (l.take k) = y := ⟨_, rfl⟩
      rw [hy] at HD HO ⊢
      clear hy
      go_wp2
      go_round
      case rel => exact ⟨k + 1, by omega, by go_num, by rw [HD.out, ← HO.out]⟩
      case measure => simp [intOf]; omega
    · obtain rfl : k = 8 := by omega
      obtain ⟨v, hv⟩ : ∃ v, dec (l.take 8) = v := ⟨_, rfl⟩
      have HV := Lib.hid hv
      rw [hv]
      clear hv hlt
      have e : num l sh = (dec (l.take 8), l.drop 8, sh) := by unfold num; rw [if_neg (by omega)]
      by_cases hcap : cap = 8
      · have hl8 : l.length = 8 := by omega
        subst hcap
        go_wp2
        go_ret
        have t : Turn (fun k => k = rb) w (w.setCell ⟨rb, 0, none⟩ (.slice (some ⟨bb, off, none⟩) 0 0)) := (Turn.refl (fun k => k = rb) w).setCell (p := ⟨rb, 0, none⟩) (fun _ => rfl) _
        unfold RNumPost
        rw [e]
        have hd : l.drop 8 = [] := List.drop_eq_nil_of_le (by omega)
        refine ⟨by have hv := HV.out; subst hv; rfl, ⟨some ⟨bb, off, none⟩, 0, { blk := ?_, bytes := fun k x hk => ?_, le := ?_, small := ?_, byte := fun x hx => ?_ }⟩, t, by simp, KeepsOthers.setCell _ _ _⟩
        · rw [heap_setCell_self _ H.out.blk, hd]; rfl
        · rw [hd] at hk; simp at hk
        · rw [hd]; simp
        · rw [hd]; simp
        · rw [hd] at hx; cases hx
      · go_wp2
        go_ret
        have t : Turn (fun k => k = rb) w (w.setCell ⟨rb, 0, none⟩ (.slice (some ⟨bb, off + 8, none⟩) (l.length - 8) (cap - 8))) := (Turn.refl (fun k => k = rb) w).setCell (p := ⟨rb, 0, none⟩) (fun _ => rfl) _
        unfold RNumPost
        rw [e]
        refine ⟨by have hv := HV.out; subst hv; rfl, ⟨some ⟨bb, off + 8, none⟩, cap - 8, { blk := ?_, bytes := fun k x hk => ?_, le := ?_, small := ?_, byte := fun x hx => ?_ }⟩, t, by simp, KeepsOthers.setCell _ _ _⟩
        · rw [heap_setCell_self _ H.out.blk, List.length_drop]; rfl
        · rw [List.getElem?_drop] at hk
          obtain ⟨off', e', hc⟩ := H.out.bytes.turn H.out.ne' t (8 + k) x hk
          cases e'
          exact ⟨off + 8, rfl, by rw [Nat.add_assoc]; exact hc⟩
        · rw [List.length_drop]; omega
        · rw [List.length_drop]; have := H.out.small; omega
        · exact H.out.byte x (List.mem_of_mem_drop hx)

theorem rnumber_calls {rb bb : Nat} {a : Option Addr} {cap : Nat} {sh : Bool} {l : List Int} {w : World} (h : RDr rb bb a cap sh l w) :
    Calls Try.prog 55 #[.pointer (some ⟨rb, 0, none⟩)] w (RNumPost rb bb sh l w) := by
  rcases Nat.lt_or_ge l.length 8 with hl | hl
  · exact rnumber_short h hl
  · exact rnumber_long h hl
theorem RDr.cells {rb bb : Nat} {a : Option Addr} {cap : Nat} {sh : Bool} {l : List Int} {w : World} (h : RDr rb bb a cap sh l w) : w.cell? ⟨rb, 0, none⟩ = some (.slice a l.length cap) ∧ w.cell? ⟨rb, 1, none⟩ = some (.bool sh) := ⟨cell_at h.blk rfl, cell_at h.blk rfl⟩
theorem RDr.more {rb bb : Nat} {a : Option Addr} {cap : Nat} {sh : Bool} {l : List Int} {w w' : World} {T : Nat → Prop} (h : RDr rb bb a cap sh l w) (t : Turn T w w') (hr : ¬ T rb) (hb : l ≠ [] → ¬ T bb) : RDr rb bb a cap sh l w' :=
  { blk := (t.block rb (heap_lt h.blk) hr).trans h.blk, bytes := h.bytes.turn hb t, le := h.le, small := h.small, byte := h.byte }
theorem RDr.drew {rb bb : Nat} {a : Option Addr} {cap : Nat} {sh : Bool} {l : List Int} {w : World} (h : RDr rb bb a cap sh l w) : RDr rb bb a cap sh l w.drew := ⟨h.blk, h.bytes, h.le, h.small, h.byte⟩
end Go.Sto
