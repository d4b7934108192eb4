/-
  The law's own 'plain', walked; strings out of bytes that came in.
-/
import Derived.Test.YtjdafmpkobelcaaConEq
import Derived.Test.YtjdafmpkobelcaaConPure2
import Derived.StillTailTactics
namespace Go.Con
open Go.Own Go.RowKit Go.Proofs

def BoolPost (w : World) (b : Bool) (e : Ending) (w' : World) : Prop := e = .returned (.bool b) ∧ w' = w

theorem plainB_bad {l : Bytes} {k : Nat} (h : k < l.length) (hb : ¬ (32 ≤ l[k].toNat ∧ l[k].toNat ≤ 126 ∧ isDigit l[k] = false)) : plainB l = false := by
  cases hp : plainB l with
  | false => rfl
  | true =>
    exfalso
    unfold plainB at hp
    have := List.all_eq_true.1 hp _ (List.getElem_mem h)
    simp only [Bool.and_eq_true, decide_eq_true_eq, Bool.not_eq_true'] at this
    exact hb ⟨this.1.1, this.1.2, this.2⟩

theorem plainB_all {l : Bytes} (h : ∀ i (hi : i < l.length), 32 ≤ l[i].toNat ∧ l[i].toNat ≤ 126 ∧ isDigit l[i] = false) : plainB l = true := by
  unfold plainB
  rw [List.all_eq_true]
  intro b hb
  obtain ⟨i, hi, rfl⟩ := List.getElem_of_mem hb
  have := h i hi
  simp [this.1, this.2.1, this.2.2]

theorem isDigit_false (b : UInt8) : isDigit b = false ↔ (b.toNat < 48 ∨ 57 < b.toNat) := by
  unfold isDigit
  rw [Bool.and_eq_false_iff, decide_eq_false_iff_not, decide_eq_false_iff_not]
  omega

set_option maxHeartbeats 1000000 in
theorem lawplain_calls (w : World) (a : Option Addr) (cap : Nat) (l : Bytes) (ha : BCells w a l) (hl : l.length ≤ 140737488351232) :
    Calls Try.prog 15 #[.slice a l.length cap] w (BoolPost w (plainB l)) := by
  go_enter Try.func15, Try.ntmps15
  go_wp2
  go_loop [3] (fun iv => ∃ k : Nat, k ≤ l.length ∧ iv = .int .i64 k ∧ ∀ i (h : i < k) (hi : i < l.length), 32 ≤ l[i].toNat ∧ l[i].toNat ≤ 126 ∧ isDigit l[i] = false) (fun iv => l.length - (intOf iv).toNat)
  case atStart => exact ⟨0, Nat.zero_le _, rfl, fun i h => by omega⟩
  case round =>
    obtain ⟨k, hk, rfl, hall⟩ := hrel
    by_cases hlt : k < l.length
    · obtain ⟨b1, o1, rfl, c1⟩ := ha.resolve_left (fun e => by rw [e] at hlt; simp at hlt)
      have k1 := c1 k hlt
      have hbad := plainB_bad hlt
      have hnext : 32 ≤ l[k].toNat ∧ l[k].toNat ≤ 126 ∧ isDigit l[k] = false → ∀ i (h : i < k + 1) (hi : i < l.length), 32 ≤ l[i].toNat ∧ l[i].toNat ≤ 126 ∧ isDigit l[i] = false := fun h i hi hil => by
        by_cases e : i = k
        · subst e; exact h
        · exact hall i (by omega) hil
      rw [isDigit_false] at hbad hnext
      have hx256 := l[k].toNat_lt
      generalize hx : l[k].toNat = x at *
      have HB := Lib.hid hbad
      have HN := Lib.hid hnext
      clear hx c1 hbad hnext hall
      by_cases h1 : x < 32
      · go_wp2
        go_ret
        exact ⟨by rw [HB.out (by omega)]; rfl, rfl⟩
      · by_cases h2 : 126 < x
        · go_wp2
          go_ret
          exact ⟨by rw [HB.out (by omega)]; rfl, rfl⟩
        · by_cases h3 : x < 48
          · go_wp2
            go_round
            case rel => exact ⟨k + 1, by omega, by go_num, HN.out ⟨by omega, by omega, by omega⟩⟩
            case measure => simp [intOf]; omega
          · by_cases h4 : 57 < x
            · go_wp2
              go_round
              case rel => exact ⟨k + 1, by omega, by go_num, HN.out ⟨by omega, by omega, by omega⟩⟩
              case measure => simp [intOf]; omega
            · go_wp2
              go_ret
              exact ⟨by rw [HB.out (by omega)]; rfl, rfl⟩
    · obtain rfl : k = l.length := by omega
      have hp := Lib.hid (plainB_all (fun i hi => hall i hi hi))
      clear hall
      go_wp2
      go_ret
      exact ⟨by rw [hp.out]; rfl, rfl⟩

/-- 'string(b)': b bytes that came in. -/
theorem run_to_string_b {P : Program} {w : World} {src dst e : TypeId} {a : Option Addr} {cap : Nat} {l : Bytes} (hs : P.underlying src = some (.slice e)) (he : P.underlying e = some (.int .u8)) (hd : P.underlying dst = some .string)
    (h : BCells w a l) (ha : a = none → l = []) : (convert src dst (.slice a l.length cap)).run P w = .ok (.string ⟨l.toArray⟩) w := by
  rw [run_convert_bytes_string w src dst e a l.length cap hs he hd]
  rcases a with _ | a
  · obtain rfl := ha rfl
    simp [Conv.bytesToString]
    rfl
  · have hx : (loadCells a l.length).run P w = .ok (((l.map fun b => (b.toNat : Int)).map (Value.int .u8)).toArray) w := by
      have := run_firstCells_some (P := P) w 1 l.length a l.length cap (bcells l) (by simp [bcells]) (fun j u hu => by
        rcases h with rfl | ⟨b, off, hab, hc⟩
        · simp [bcells] at hu
        · cases hab
          rw [Addr.add_lit]
          have hj : j < l.length := by
            have := (List.getElem?_eq_some_iff.1 hu).1
            simpa [bcells] using this
          rw [hc j hj]
          simpa [bcells, hj] using hu)
      simpa [Builtin.firstCells, bcells, Function.comp_def] using this
    rw [run_bytesToString w a l.length cap _ hx, fold_push]
    simp
end Go.Con
