/-
  The law's heavy and sameLines, walked.
-/
import Derived.Deep.LoopGhost
import Derived.BigQuiet
import Derived.WalkSmall
import Derived.Test.YtjdafmpkobelcaaDoorQConEvents
import Derived.Test.YtjdafmpkobelcaaDoorQOwnRegion
set_option linter.unusedVariables false

namespace Go.Con
open Go.Own Go.RowKit Go.Proofs

def evW (l : List Ev) : Nat := l.foldr (fun e n => 1 + e.b.length + n) 0
theorem evW_nil : evW [] = 0 := rfl
theorem evW_cons (e : Ev) (l : List Ev) : evW (e :: l) = 1 + e.b.length + evW l := rfl
theorem evW_append (a b : List Ev) : evW (a ++ b) = evW a + evW b := by
  induction a with
  | nil => simp [evW_nil]
  | cons x r ih => rw [List.cons_append, evW_cons, evW_cons, ih]; omega
theorem evW_succ {l : List Ev} {k : Nat} {p : Ev} (h : l[k]? = some p) : evW (l.take (k + 1)) = evW (l.take k) + 1 + p.b.length := by
  rw [List.take_add_one, h, evW_append]
  simp [evW_cons, evW_nil]; omega
theorem evW_take (l : List Ev) (k : Nat) : evW (l.take k) ≤ evW l := by
  have := evW_append (l.take k) (l.drop k)
  rw [List.take_append_drop] at this
  omega
theorem evW_len (l : List Ev) : l.length ≤ evW l := by
  induction l with
  | nil => simp
  | cons x r ih => rw [evW_cons, List.length_cons]; omega
theorem evW_mem {l : List Ev} {p : Ev} (h : p ∈ l) : p.b.length ≤ evW l := by
  induction l with
  | nil => cases h
  | cons x r ih =>
    rw [evW_cons]
    rcases List.mem_cons.1 h with rfl | h
    · omega
    · have := ih h; omega

set_option maxHeartbeats 1000000 in
theorem heavy_calls {w : World} {a : Option Addr} {l : List Ev} (cap : Nat) (hin : EvIn w a l) (hlen : l.length ≤ 9223372036854775807) (hsz : ∀ p ∈ l, p.b.length ≤ 140737488351232) :
    Calls Tryd.prog 7 #[.slice a l.length cap] w fun e w' => e = .returned (.bool (decide (3000 < evW l))) ∧ w' = w := by
  have HI := Lib.hid (And.intro hin hsz)
  clear hin hsz
  go_enter Tryd.func7, Tryd.ntmps7
  go_wp2_with fail
  go_loopg [3, 4] (l.length) (fun gk nv iv wr => ∃ k n : Nat, gk + k = l.length ∧ iv = .int .i64 k ∧ nv = .int .i64 n ∧ n = evW (l.take k) ∧ n ≤ 140737488354353 ∧ wr = w)
  case atStart => exact ⟨0, 0, rfl, rfl, rfl, by simp [evW_nil], by omega, rfl⟩
  case round =>
    obtain ⟨k, n, hk, rfl, rfl, hn, hn2, hwr⟩ := hrel
    rw [hwr]
    have HN := Lib.hid hn
    clear hn hwr
    by_cases hlt : k < l.length
    · have q1 : decide ((k : Int) < (l.length : Int)) = true := decide_eq_true (by omega)
      have q1' : decide (k < l.length) = true := decide_eq_true hlt
      by_cases hle : n ≤ 3000
      · have q2 : decide ((n : Int) ≤ 3000) = true := decide_eq_true (by omega)
        have q2' : decide (n ≤ 3000) = true := decide_eq_true hle
        obtain ⟨p, hp⟩ : ∃ p, l[k]? = some p := ⟨_, List.getElem?_eq_getElem hlt⟩
        obtain ⟨b, off, rfl, hc⟩ := HI.out.1.resolve_left (fun e => by rw [e] at hlt; simp at hlt)
        obtain ⟨-, -, ba, bc, c2, -⟩ := hc k p hp
        have hbz := HI.out.2 p (List.mem_of_getElem? hp)
        obtain ⟨m, hm⟩ : ∃ m, p.b.length = m := ⟨_, rfl⟩
        rw [hm] at c2 hbz
        have hi0 : (0 : Int) ≤ (k : Int) := by omega
        have hi1 : (k : Int) < (l.length : Int) := by omega
        have HP := Lib.hid (And.intro hp hm)
        clear hp hm hc hlt
        go_wp2_with fail
        go_roundg (gk - 1)
        case measure => omega
        case rel =>
          refine ⟨k + 1, n + 1 + m, by omega, by go_num, by go_num, ?_, by omega, rfl⟩
          rw [evW_succ HP.out.1, HP.out.2, ← HN.out]
      · have q2 : decide ((n : Int) ≤ 3000) = false := decide_eq_false (by omega)
        have q2' : decide (n ≤ 3000) = false := decide_eq_false hle
        have q3 : decide ((3000 : Int) < (n : Int)) = true := decide_eq_true (by omega)
        have q3' : decide (3000 < n) = true := decide_eq_true (by omega)
        have HE := Lib.hid (show decide (3000 < evW l) = true from decide_eq_true (by have := evW_take l k; have := HN.out; omega))
        clear hle hlt
        go_wp2_with fail
        go_ret
        rw [HE.out]
        exact ⟨rfl, rfl⟩
    · have q1 : decide ((k : Int) < (l.length : Int)) = false := decide_eq_false (by omega)
      have q1' : decide (k < l.length) = false := decide_eq_false hlt
      have HE := Lib.hid (show decide (3000 < evW l) = decide (3000 < n) from by rw [HN.out, List.take_of_length_le (by omega)])
      by_cases hg : 3000 < n
      · have q3 : decide ((3000 : Int) < (n : Int)) = true := decide_eq_true (by omega)
        have q3' : decide (3000 < n) = true := decide_eq_true hg
        clear hlt
        go_wp2_with fail
        go_ret
        rw [HE.out, q3']
        exact ⟨rfl, rfl⟩
      · have q3 : decide ((3000 : Int) < (n : Int)) = false := decide_eq_false (by omega)
        have q3' : decide (3000 < n) = false := decide_eq_false hg
        clear hlt
        go_wp2_with fail
        go_ret
        rw [HE.out, q3']
        exact ⟨rfl, rfl⟩

/-- Lines lie there. -/
def LCells (w : World) (a : Option Addr) (l : List Ln) : Prop :=
  l = [] ∨ ∃ b off, a = some ⟨b, off, none⟩ ∧ ∀ i (h : i < l.length), w.cell? ⟨b, off + i * 2, none⟩ = some (.int .i64 l[i].1) ∧ w.cell? ⟨b, off + i * 2 + 1, none⟩ = some (str l[i].2)

theorem LCells.of_slice {w : World} {e : TypeId} {a : Option Addr} {n cap : Nat} {l : List Ln} (h : SliceAt w e 2 (.slice a n cap) (lcells l)) : n = l.length ∧ LCells w a l := by
  obtain ⟨a', n', c', hv, hl, _⟩ := h.form
  cases hv
  rw [lcells_length] at hl
  have hn : n = l.length := by omega
  refine ⟨hn, ?_⟩
  by_cases h0 : l = []
  · exact .inl h0
  · have : 0 < l.length := List.length_pos_iff.2 h0
    obtain ⟨b, off, rfl⟩ := h.addr (by omega)
    refine .inr ⟨b, off, rfl, fun i hi => ?_⟩
    have hg := lcells_get l i hi
    exact ⟨h.cells _ _ hg.1, by rw [Nat.add_assoc]; exact h.cells _ _ hg.2⟩

set_option maxHeartbeats 2000000 in
theorem same_calls {w : World} {a b : Option Addr} {l : List Ln} (ca cb : Nat) (ha : LCells w a l) (hb : LCells w b l) (hl : l.length ≤ 1000000000) :
    Calls Tryd.prog 27 #[.slice a l.length ca, .slice b l.length cb] w fun e w' => e = .returned (.bool true) ∧ Turn (fun _ => False) w w' := by
  have HI := Lib.hid (And.intro ha hb)
  clear ha hb
  go_enter Tryd.func27, Tryd.ntmps27
  go_wp2_with fail
  go_loopg [5] (l.length) (fun gk iv wr => ∃ k : Nat, gk + k = l.length ∧ iv = .int .i64 k ∧ Turn (fun _ => False) w wr)
  case atStart => exact ⟨0, rfl, rfl, Turn.refl _ _⟩
  case round =>
    obtain ⟨k, hk, rfl, ht⟩ := hrel
    have HT := Lib.hid ht
    by_cases hlt : k < l.length
    · obtain ⟨b1, o1, rfl, h1⟩ := HI.out.1.resolve_left (fun e => by rw [e] at hlt; simp at hlt)
      obtain ⟨b2, o2, rfl, h2⟩ := HI.out.2.resolve_left (fun e => by rw [e] at hlt; simp at hlt)
      obtain ⟨c1, c2⟩ := h1 k hlt
      obtain ⟨d1, d2⟩ := h2 k hlt
      have k1 := World.block_lt_of_cell? w _ c1
      have k2 := World.block_lt_of_cell? w _ d1
      have r1 := (ht.cell (p := ⟨b1, o1 + k * 2, none⟩) (fun h => h) k1).trans c1
      have r2 := (ht.cell (p := ⟨b1, o1 + k * 2 + 1, none⟩) (fun h => h) k1).trans c2
      have r3 := (ht.cell (p := ⟨b2, o2 + k * 2, none⟩) (fun h => h) k2).trans d1
      have r4 := (ht.cell (p := ⟨b2, o2 + k * 2 + 1, none⟩) (fun h => h) k2).trans d2
      unfold str at r2 r4
      have hi0 : (0 : Int) ≤ (k : Int) := by omega
      have hi1 : (k : Int) < (l.length : Int) := by omega
      generalize l[k].1 = t at *
      generalize l[k].2 = s at *
      clear c1 c2 d1 d2 h1 h2 k1 k2 ht
      go_wp2_with fail
      go_quiet (fail)
      go_wp2_with fail
      go_roundg (gk - 1)
      case measure => omega
      case rel => exact ⟨k + 1, by omega, by go_num, turn_drewN _ HT.out⟩
    · clear ht
      go_wp2_with fail
      go_ret
      exact ⟨rfl, HT.out⟩
end Go.Con
