/-
  awake19, walked.
-/
import Derived.Test.YtcfegaclbkggpaaRndTurnAll
namespace Go.Rnd
open Go.Own Go.RowKit Go.Proofs

/-- What a call on the kernel leaves of a world that the kernel is younger than. -/
theorem young_step {g g' : Gh} {w0 w w' : World} (hT : Turn (fun _ => False) w0 w) (ho : ∀ k, k < w0.heap.size → (g.ρ k).1 = 0) (hs : Step g g' w w') : Turn (fun _ => False) w0 w' ∧ ∀ k, k < w0.heap.size → (g'.ρ k).1 = 0 := by
  have h0 := hT.size
  refine ⟨⟨hs.turn.os.trans hT.os, hs.turn.tape.trans hT.tape, hs.turn.output.trans hT.output, Nat.le_trans h0 hs.turn.size, fun i hi _ => ?_⟩, fun k hk => by rw [hs.tags k (by omega)]; exact ho k hk⟩
  rw [hs.turn.block i (by omega) (fun e => e (ho i hi))]
  exact hT.block i hi (fun e => e)

set_option maxRecDepth 10000 in
set_option maxHeartbeats 2000000 in
theorem awake_calls (w : World) : Calls Try.prog 5 #[] w fun e w' => e = .returned (.bool true) ∧ Turn (fun _ => False) w w' := by
  go_enter Try.func5, Try.ntmps5
  go_wp2_with fail
  refine (new_calls w).mono ?_
  rintro e1 w1 ⟨g1, rfl, hk1, R1, T1, ho1⟩
  have o1 : KS.new.Ok := KS.Ok.new
  have c1 := do_create R1 o1 (kb := w.heap.size) hk1 KS.Best.new (fun _ => rfl) (show KS.new.n < 20 by decide) (show KS.new.c ≤ 1000000 by decide) (p := 5) (by decide) (by decide) (fun i i1 i2 => by have : i ≤ 0 := i2; omega)
  have H1 := Lib.hid (And.intro c1 (And.intro T1 ho1))
  clear R1 T1 ho1 c1
  go_wp2_with fail
  refine H1.out.1.mono ?_
  rintro e2 w2 ⟨rfl, g2, R2, S2⟩
  have o2 : (KS.new.tick.add 5).Ok := o1.add (by decide) (by decide) (fun i i1 i2 => by have : i ≤ 0 := i2; omega)
  have b2 : (KS.new.tick.add 5).Best 1 := .inr ⟨Nat.le_refl _, Nat.le_refl _, rfl, fun i i1 i2 _ => by
    have : i ≤ 1 := i2
    obtain rfl : i = 1 := by omega
    exact Int.le_refl _⟩
  have c2 := do_create R2 o2 (kb := w.heap.size) (S2.k.trans hk1) b2 (fun e => by cases e) (show (KS.new.tick.add 5).n < 20 by decide) (show (KS.new.tick.add 5).c ≤ 1000000 by decide) (p := 9) (by decide) (by decide) (fun i i1 i2 => by
    have : i ≤ 1 := i2
    obtain rfl : i = 1 := by omega
    decide)
  have H2 := Lib.hid (And.intro c2 (young_step H1.out.2.1 H1.out.2.2 S2))
  have k2 := S2.k
  have HK2 := Lib.hid k2
  clear R2 S2 c2 k2
  go_wp2_with fail
  refine H2.out.1.mono ?_
  rintro e3 w3 ⟨rfl, g3, R3, S3⟩
  have o3 : ((KS.new.tick.add 5).tick.add 9).Ok := o2.add (by decide) (by decide) (fun i i1 i2 => by
    have : i ≤ 1 := i2
    obtain rfl : i = 1 := by omega
    decide)
  have b3 : ((KS.new.tick.add 5).tick.add 9).Best 2 := .inr ⟨by decide, Nat.le_refl _, rfl, fun i i1 i2 _ => by
    have : i ≤ 2 := i2
    have h : i = 1 ∨ i = 2 := by omega
    rcases h with rfl | rfl <;> decide⟩
  have H3 := Lib.hid (And.intro (running_calls R3 o3 (kb := w.heap.size) (S3.k.trans (HK2.out.trans hk1))) (young_step H2.out.2.1 H2.out.2.2 S3))
  have HO := Lib.hid (And.intro o3 b3)
  clear R3 S3 o1 o2 o3 b2 b3
  go_wp2_with fail
  refine H3.out.1.mono ?_
  rintro e4 w4 ⟨t, rfl, hb, T4⟩
  obtain rfl := KS.Best.unique HO.out.1 hb HO.out.2
  have HF := Lib.hid T4
  clear hb T4
  go_wp2_with fail
  go_ret
  exact ⟨rfl, H3.out.2.1.trans HF.out⟩
end Go.Rnd
