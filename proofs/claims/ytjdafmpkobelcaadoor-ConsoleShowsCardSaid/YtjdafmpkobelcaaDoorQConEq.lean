/-
  EqBytes at two equal lists, walked; two consoles side by side.
-/
import Derived.Test.YtjdafmpkobelcaaDoorQConArg
set_option linter.unusedVariables false

namespace Go.Con
open Go.Own Go.RowKit Go.Proofs

/-- The bytes l lie there. -/
def BCells (w : World) (a : Option Addr) (l : Bytes) : Prop :=
  l = [] ∨ ∃ b off, a = some ⟨b, off, none⟩ ∧ ∀ i (h : i < l.length), w.cell? ⟨b, off + i, none⟩ = some (.int .u8 (l[i].toNat : Int))

theorem BCells.of_slice {w : World} {e : TypeId} {a : Option Addr} {n cap : Nat} {l : Bytes} (h : SliceAt w e 1 (.slice a n cap) (bcells l)) : n = l.length ∧ BCells w a l := by
  obtain ⟨a', n', c', hv, hl, _⟩ := h.form
  cases hv
  rw [bcells_length, Nat.mul_one] at hl
  refine ⟨hl.symm, ?_⟩
  by_cases h0 : l = []
  · exact .inl h0
  · have : 0 < l.length := List.length_pos_iff.2 h0
    obtain ⟨b, off, rfl⟩ := h.addr (by omega)
    refine .inr ⟨b, off, rfl, fun i hi => h.cells i _ ?_⟩
    simp [bcells, hi]

theorem BCells.turn {w w' : World} {a : Option Addr} {l : Bytes} (h : BCells w a l) (t : Turn (fun _ => False) w w') : BCells w' a l := by
  rcases h with h | ⟨b, off, ha, hc⟩
  · exact .inl h
  · refine .inr ⟨b, off, ha, fun i hi => ?_⟩
    have hb := World.block_lt_of_cell? w _ (hc i hi)
    rw [t.cell (fun h => h) hb]; exact hc i hi

theorem turn_drewN {T : Nat → Prop} {a b : World} (n : Nat) (h : Turn T a b) : Turn T a (b.drewN n) := ⟨h.os, h.tape, h.output, h.size, h.block⟩

set_option maxHeartbeats 1000000 in
theorem eqBytes_calls (w : World) (a b : Option Addr) (ca cb : Nat) (l : Bytes) (ha : BCells w a l) (hb : BCells w b l) (hl : l.length ≤ 1099511627776) :
    Calls Tryd.prog 13 #[.slice a l.length ca, .slice b l.length cb] w fun e w' => e = .returned (.bool true) ∧ Turn (fun _ => False) w w' := by
  have hne : (((l.length : Nat) : Int) != ((l.length : Nat) : Int)) = false := by simp
  go_enter Tryd.func13, Tryd.ntmps13
  go_wp2
  go_loopw [5] (fun iv wr => ∃ k : Nat, k ≤ l.length ∧ iv = .int .i64 k ∧ Turn (fun _ => False) w wr) (fun iv _ => l.length - (intOf iv).toNat)
  case atStart => exact ⟨0, Nat.zero_le _, rfl, Turn.refl _ _⟩
  case round =>
    obtain ⟨k, hk, rfl, ht⟩ := hrel
    by_cases hlt : k < l.length
    · obtain ⟨b1, o1, rfl, c1⟩ := (ha.turn ht).resolve_left (fun e => by rw [e] at hlt; simp at hlt)
      obtain ⟨b2, o2, rfl, c2⟩ := (hb.turn ht).resolve_left (fun e => by rw [e] at hlt; simp at hlt)
      have k1 := c1 k hlt
      have k2 := c2 k hlt
      generalize hx : l[k] = x at *
      clear c1 c2 hx
      have hq : (((x.toNat : Nat) : Int) != ((x.toNat : Nat) : Int)) = false := by simp
      have hk0 : (0 : Int) ≤ (k : Int) := by omega
      have hk1 : (k : Int) < (l.length : Int) := by omega
      go_wp2
      go_quiet (fail)
      go_wp2
      go_roundw
      case rel => exact ⟨k + 1, by omega, by go_num, turn_drewN _ ht⟩
      case measure => simp [intOf]; omega
    · obtain rfl : k = l.length := by omega
      go_wp2
      go_ret
      exact ⟨rfl, ht⟩

section
variable {g d : Ghost} {S D : CS} {w w' : World}

/-- Two consoles that share no block. -/
def Apart (g d : Ghost) : Prop := ∀ k, (g.ρ k).1 = 0 ∨ (d.ρ k).1 = 0

theorem Rep.beside (h : Rep g S w) (hr : Rep d D w) (ha : Apart g d) {d' : Ghost} {D' : CS} (hs : Step d d' w w') (hr' : Rep d' D' w') : Rep g S w' ∧ Apart g d' := by
  refine ⟨h.keep hs.turn (fun k _ hk => (ha k).resolve_right hk), fun k => ?_⟩
  rcases Nat.lt_or_ge k w.heap.size with hk | hk
  · rw [hs.tags k hk]; exact ha k
  · exact .inl (h.fresh k hk)

theorem Apart.symm (h : Apart g d) : Apart d g := fun k => (h k).symm
end
end Go.Con
