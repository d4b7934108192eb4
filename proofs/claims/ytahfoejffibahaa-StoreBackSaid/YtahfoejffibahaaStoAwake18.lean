/-
  The first example of TopStores, walked; and what Get gives is the lowest block.
-/
import Derived.Test.YtahfoejffibahaaStoTop
namespace Go.Sto
open Go.Own Go.RowKit Go.Proofs

/-- Whatever was there stands. -/
abbrev Old (w w' : World) : Prop := Turn (fun k => w.heap.size ≤ k) w w'

theorem Step.old {g g' : Ghost} {w w1 w2 : World} (hb : Below w.heap.size w w1) (htag : ∀ k, k < w.heap.size → g.ρ k = (0, 0)) (h : Step g g' w1 w2) : Old w w2 := by
  have hs := hb.size
  refine ⟨h.turn.os.trans hb.os, h.turn.tape.trans hb.tape, h.turn.output.trans hb.output, Nat.le_trans hs h.turn.size, fun k hk hn => ?_⟩
  rw [h.turn.block k (by omega) (by rw [htag k hk]; simp)]
  exact hb.block k hk

theorem awake18_gets : (get (newS 16) 3).2 = (1, 0) ∧ (get (get (newS 16) 3).1 4).2 = (5, 0) := ⟨by decide, by decide⟩

theorem awake18_calls (w : World) : Calls Try.prog 35 #[] w fun e w' => e = .returned (.bool true) ∧ Old w w' := by
  have ha := Lib.hid awake18_gets
  go_enter Try.func35, Try.ntmps35
  go_wp2_with (first
    | (go_at_call 17; refine (new_good 16 (by decide) (by decide) (by decide) w).mono ?_
       rintro e1 w1 ⟨g, rfl, hgn, r1, hB1, htag, hk1⟩
       have G1 := Lib.hid r1
       clear r1)
    | (go_at_call 18; refine (get_full G1.out rfl 3).mono ?_
       clear G1
       rintro e2 w2 ⟨rfl, g2, r2, s2⟩
       have hs2 := s2.s
       have G2 := Lib.hid r2
       clear r2
       rw [ha.out.1])
    | (go_at_call 18; refine (get_full G2.out hs2 4).mono ?_
       clear G2
       rintro e3 w3 ⟨rfl, g3, r3, s3⟩
       rw [ha.out.2]))
  go_ret
  exact ⟨rfl, Step.old hB1 htag (s2.trans s3)⟩

/-! ### The lowest block -/

theorem lowest_free {S : St} {_n : Nat} (hg : ∀ b ∈ S, Good b) {k : Int} (h1 : 1 ≤ k) (h2 : k ≤ 32000) : ∀ a, lowestB k (blocks a S) = match hit (fits (need k)) a S with | none => 0 | some i => ((a + sz (S.take i) : Nat) : Int) + 1 := by
  induction S with
  | nil => intro a; rfl
  | cons b S ih =>
    intro a
    have hb := hg b (by simp)
    have hc : (((!b.used) = true ∧ k + 1 ≤ (b.size : Int)) ↔ fits (need k) a b = true) := by
      have e1 := hb.even
      have e2 := hb.two
      have e3 : need k = max 2 ((k.toNat + 2) / 2 * 2) := rfl
      simp only [fits, Bool.and_eq_true, decide_eq_true_eq]
      constructor
      · rintro ⟨p, q⟩; exact ⟨p, by omega⟩
      · rintro ⟨p, q⟩; exact ⟨p, by omega⟩
    simp only [blocks, lowestB, hit]
    by_cases hf : fits (need k) a b = true
    · rw [if_pos (hc.2 hf), if_pos hf]; simp [sz]
    · rw [if_neg (fun hh => hf (hc.1 hh)), if_neg hf, ih (fun c hc => hg c (by simp [hc]))]
      cases hit (fits (need k)) (a + b.size) S with
      | none => rfl
      | some i => simp [sz]; omega

theorem get_lowest {S : St} {n : Nat} (h : Ok n S) {k : Int} (h1 : 1 ≤ k) (h2 : k ≤ 32000) : (get S k).2.1 = lowestB k (blocks 0 S) := by
  rw [lowest_free (_n := n) h.good h1 h2, get_model (by omega) h2]
  cases hit (fits (need k)) 0 S with
  | none => rfl
  | some i => simp

theorem get_err {S : St} {n : Nat} (h : Ok n S) (k : Int) : ((get S k).2.2 = 0 ↔ 0 < (get S k).2.1) := by
  rcases get_U h k with ⟨e, he, h0⟩ | ⟨S', a, X, Y, he, -, -, -, ha, -⟩
  · rw [he]; simp [h0]
  · rw [he]; simp [ha]
end Go.Sto
