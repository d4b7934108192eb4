/-
  turn, walked: the task takes a packet.
-/
import Derived.Test.YtcfegaclbkggpaaRndTurn
namespace Go.Rnd
open Go.Own Go.RowKit Go.Proofs

section
variable {g g' : Gh} {σ σ' : Tags} {lb n : Nat} {f : Nat → SV} {w w' : World} {K K' : KS}

/-- A server that has taken a packet. -/
def takeSV (x : SV) (t p : Nat) : SV := { x with took := x.took ++ [p], sends := if t = 1 then [] else [p] }

theorem app_b1 {xs : List Value} {v : Value} (h : xs.length ≤ 1000) : (xs.length + [v].length) * 8 ≤ 140737488355328 * 1 := by
  simp only [List.length_cons, List.length_nil]
  omega
theorem app_b2 {xs : List Value} {v : Value} (h : xs.length ≤ 1000) : xs.length + [v].length ≤ 1152921504606846976 := by
  simp only [List.length_cons, List.length_nil]
  omega

set_option maxRecDepth 10000 in
set_option maxHeartbeats 2000000 in
theorem turn_take {kb i t : Nat} (F : Fit g σ lb n f K w kb i t) (hs : (f i).sends = []) (P : Int) (hP : ¬ (t = 1 ∧ ((f i).made : Int) < P)) {p : Nat} {r : List Nat} (hq : (K.ts t).q = p :: r) (hat : (K.ps p).at_ = t) (hp1 : 1 ≤ p) :
    Calls Try.prog 9 #[pt kb, .slice (some ⟨lb, 0, none⟩) n n, .int .i64 t, .int .i64 P] w (TurnPost g σ lb n (K.tick.pop t p r) (updN f i (takeSV (f i) t p)) w) := by
  have hi := F.ei
  have ht := F.et
  have hn2 := F.n2
  have hn8 := F.n8
  obtain ⟨vs, vt, cur, c0, cz, -, -, -, -, s1, s2, d0, d1, d2, df⟩ := F.S.at F.ei
  obtain ⟨va, vn, vc, rfl, hvl, hvc, hvm, -⟩ := s1.1.form
  rw [hs] at hvl
  obtain rfl : vn = 0 := by simpa [nums] using hvl.symm
  have i1 : IntKind.i64.wrap ((t : Int) - 1) = (i : Int) := by rw [IntWalk.i64_in _ (by omega)]; omega
  have hnx := nx_ne (t := t) (n := n) (by omega) (by omega) hn2
  have i2 : wrap64 ((t : Int) % (n : Int) + 1) = ((t % n + 1 : Nat) : Int) := by
    have : (t : Int) % (n : Int) + 1 = ((t % n + 1 : Nat) : Int) := by push_cast; rfl
    rw [this]
    exact IntWalk.wrap64_in _ (by omega)
  have HD : Calls Try.prog 6 #[pt kb, doArg 4 0 0] w (NumPost g (K.tick.pop t p r) w p) :=
    do_take_own F.R F.ok F.k F.best (by omega) (by have := F.en; omega) (by have := F.en; omega) (by have := F.c; omega) hq hat
  have HH := Lib.hid (And.intro HD (And.intro F hs))
  have HT := Lib.hid ht
  have HL2 : Hid ((nums (f i).took).length ≤ 1000) := Lib.hid (by rw [nums_length]; exact F.took)
  have q0 : (0 < p) = True := eq_true (by omega)
  have hor : (t ≠ 1 ∧ ((t : Int) = 1) = False ∧ decide (1 < (t : Int)) = true) ∨ (t = 1 ∧ ((t : Int) = 1) = True ∧ decide (1 < (t : Int)) = false ∧ decide (((f i).made : Int) < P) = false) := by
    by_cases e : (t : Int) = 1
    · exact .inr ⟨by omega, eq_true e, decide_eq_false (by omega), decide_eq_false fun h => hP ⟨by omega, h⟩⟩
    · exact .inl ⟨by omega, eq_false e, decide_eq_true (by omega)⟩
  clear hs s1 s2 c0 cz ht HD F hnx hP hq hvl hat hp1
  obtain ⟨z, hz⟩ : ∃ z : Int, (t : Int) = z := ⟨_, rfl⟩
  rw [hz] at i1 i2 hor ⊢
  have HZ := Lib.hid hz
  clear hz
  rcases hor with ⟨ht1, q1, q3⟩ | ⟨ht1, q1, q3, q2⟩
  · have HT1 := Lib.hid ht1
    clear ht1
    go_enter Try.func9, Try.ntmps9
    go_upto_region 2 with fail
    go_step
    go_wp2_with fail
    refine HH.out.1.mono ?_
    rintro e1 w1 ⟨rfl, g1, R1, T1⟩
    have S1 := HH.out.2.1.S.step T1
    obtain ⟨vs', vt', cur', -, -, -, -, -, -, s1, s2, d0, d1, d2, df⟩ := S1.at hi
    have hx := s2.1.form
    obtain ⟨ua, un, uc, rfl, hul, -⟩ := hx
    have HR := Lib.hid (And.intro R1 (And.intro T1 (And.intro S1 (And.intro s1 s2))))
    clear R1 T1 S1 s1 s2 hul
    go_upto_region 16 with (at_builtin; refine wpList_append _ rfl _ _ 22 22 rfl 3 1 8 (.int .i64 0) Try.underlying22 (.inr ⟨_, Try.underlying22⟩) elemInt (.slice ua un uc) _ rfl ((HR.out.2.2.2.2).1.turn ((Turn.refl (fun _ => False) w1).alloc _) (fun _ _ hh => hh)) _ _ _ rfl (Src.one rfl (heap_alloc_new w1 _)) (by intro u hu; simp at hu; subst hu; rfl) (app_b1 HL2.out) (app_b2 HL2.out) ?_; intro v' w2 hv' ht hw hn; clear hn; have hcl := (HR.out.2.2.1).app_cells (by simp) (HR.out.2.2.2.2) ht; have b1 : w2.cell? ⟨lb, i * 3 + 1, none⟩ = some (.slice ua un uc) := (hcl.1 _).trans d1; have b1f := hcl.2; obtain ⟨raa, ran, rac, rfl, -⟩ := hv'.form; have hF := Lib.hid (And.intro hv' (And.intro ht hw)); clear hv' ht hw hcl)
    obtain ⟨w3, hw3⟩ : ∃ w3, w2.setCell ⟨lb, i * 3 + 1, none⟩ (.slice raa ran rac) = w3 := ⟨_, rfl⟩
    obtain ⟨σ3, S3, R3, T3⟩ := HR.out.2.2.1.set_app HR.out.1 hi (p := p) (.inr rfl) HR.out.2.2.2.2 hF.out.1 hF.out.2.1 hF.out.2.2
    rw [hw3] at S3 R3 T3 ⊢
    simp only [show ((1 : Nat) = 0) = False from by simp, if_false] at S3
    obtain ⟨vs3, vt3, cur3, -, -, -, -, -, -, s3, -, e0, -⟩ := S3.at hi
    rw [updN_self] at s3
    obtain ⟨xa, xn, xc, rfl, -⟩ := s3.1.form
    have HL3 : Hid ((nums (f i).sends).length ≤ 1000) := Lib.hid (by rw [HH.out.2.2]; decide)
    have HS := Lib.hid (And.intro S3 (And.intro R3 (And.intro T3 s3)))
    clear S3 R3 T3 s3 hw3
    go_wp2_with (at_builtin; refine wpList_append _ rfl _ _ 22 22 rfl 3 1 8 (.int .i64 0) Try.underlying22 (.inr ⟨_, Try.underlying22⟩) elemInt (.slice xa xn xc) _ rfl ((HS.out.2.2.2).1.turn ((Turn.refl (fun _ => False) w3).alloc _) (fun _ _ hh => hh)) _ _ _ rfl (Src.one rfl (heap_alloc_new w3 _)) (by intro u hu; simp at hu; subst hu; rfl) (app_b1 HL3.out) (app_b2 HL3.out) ?_; intro v' w4 hv' ht hw hn; clear hn; have hcl := (HS.out.1).app_cells (by simp) (HS.out.2.2.2) ht; have b3 : w4.cell? ⟨lb, i * 3, none⟩ = some (.slice xa xn xc) := (hcl.1 _).trans e0; have b3f := hcl.2; obtain ⟨rba, rbn, rbc, rfl, -⟩ := hv'.form; have hF2 := Lib.hid (And.intro hv' (And.intro ht hw)); clear hv' ht hw hcl)
    obtain ⟨σ5, S5, R5, T5⟩ := HS.out.1.set_app HS.out.2.1 hi (p := p) (.inl rfl) (by rw [updN_self]; exact HS.out.2.2.2) (by rw [updN_self]; exact hF2.out.1) hF2.out.2.1 hF2.out.2.2
    go_ret
    refine ⟨by simp, g1, σ5, R5, ?_, ((Step2.kern σ HR.out.2.1).trans HS.out.2.2.1).trans T5⟩
    rw [updN_updN, updN_self, if_pos rfl, HH.out.2.2] at S5
    have e : takeSV (f i) t p = { f i with took := (f i).took ++ [p], sends := [p] } := by unfold takeSV; rw [if_neg HT1.out]
    rw [e]
    exact S5
  · have HT1 := Lib.hid ht1
    clear ht1
    go_enter Try.func9, Try.ntmps9
    go_upto_region 2 with fail
    go_step
    go_wp2_with fail
    refine HH.out.1.mono ?_
    rintro e1 w1 ⟨rfl, g1, R1, T1⟩
    have S1 := HH.out.2.1.S.step T1
    obtain ⟨vs', vt', cur', -, -, -, -, -, -, s1, s2, d0, d1, d2, df⟩ := S1.at hi
    have hx := s2.1.form
    obtain ⟨ua, un, uc, rfl, hul, -⟩ := hx
    have HR := Lib.hid (And.intro R1 (And.intro T1 (And.intro S1 (And.intro s1 s2))))
    clear R1 T1 S1 s1 s2 hul
    go_wp2_with (at_builtin; refine wpList_append _ rfl _ _ 22 22 rfl 3 1 8 (.int .i64 0) Try.underlying22 (.inr ⟨_, Try.underlying22⟩) elemInt (.slice ua un uc) _ rfl ((HR.out.2.2.2.2).1.turn ((Turn.refl (fun _ => False) w1).alloc _) (fun _ _ hh => hh)) _ _ _ rfl (Src.one rfl (heap_alloc_new w1 _)) (by intro u hu; simp at hu; subst hu; rfl) (app_b1 HL2.out) (app_b2 HL2.out) ?_; intro v' w2 hv' ht hw hn; clear hn; have hcl := (HR.out.2.2.1).app_cells (by simp) (HR.out.2.2.2.2) ht; have b1 : w2.cell? ⟨lb, i * 3 + 1, none⟩ = some (.slice ua un uc) := (hcl.1 _).trans d1; have b1f := hcl.2; obtain ⟨raa, ran, rac, rfl, -⟩ := hv'.form; have hF := Lib.hid (And.intro hv' (And.intro ht hw)); clear hv' ht hw hcl)
    obtain ⟨σ3, S3, R3, T3⟩ := HR.out.2.2.1.set_app HR.out.1 hi (p := p) (.inr rfl) HR.out.2.2.2.2 hF.out.1 hF.out.2.1 hF.out.2.2
    simp only [show ((1 : Nat) = 0) = False from by simp, if_false] at S3
    go_ret
    refine ⟨by simp, g1, σ3, R3, ?_, (Step2.kern σ HR.out.2.1).trans T3⟩
    have e : takeSV (f i) t p = { f i with took := (f i).took ++ [p] } := by
      have h0 := HH.out.2.2
      unfold takeSV
      rw [if_pos HT1.out]
      cases hx : f i with
      | mk a b c => rw [hx] at h0; dsimp only at h0; rw [h0]
    rw [e]
    exact S3
end
end Go.Rnd
