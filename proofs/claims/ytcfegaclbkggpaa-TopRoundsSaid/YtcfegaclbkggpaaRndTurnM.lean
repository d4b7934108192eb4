/-
  turn, walked: the task makes a packet.
-/
import Derived.Test.YtcfegaclbkggpaaRndTurnT
namespace Go.Rnd
open Go.Own Go.RowKit Go.Proofs

section
variable {g g' : Gh} {σ σ' : Tags} {lb n : Nat} {f : Nat → SV} {w w' : World} {K K' : KS}

set_option maxRecDepth 10000 in
set_option maxHeartbeats 2000000 in
theorem turn_make {kb i t m M : Nat} (F : Fit g σ lb n f K w kb i t) (hs : (f i).sends = []) (P : Int) (ht1 : t = 1) (hP : (m : Int) < P) (hfm : (f i).made = m) (hKm : K.m = m) (hM : M = m + 1) :
    Calls Try.prog 9 #[pt kb, .slice (some ⟨lb, 0, none⟩) n n, .int .i64 t, .int .i64 P] w (TurnPost g σ lb n (K.tick.make t) (updN f i ⟨[M], (f i).took, M⟩) w) := by
  have hi := F.ei
  have ht := F.et
  have hn2 := F.n2
  have hn8 := F.n8
  have hm1000 : m ≤ 100 := by have := F.m; omega
  obtain ⟨vs, vt, cur, c0, cz, -, -, -, -, s1, s2, d0, d1, d2, df⟩ := F.S.at F.ei
  obtain ⟨va, vn, vc, rfl, hvl, hvc, hvm, -⟩ := s1.1.form
  rw [hs] at hvl
  rw [hfm] at d2
  obtain rfl : vn = 0 := by simpa [nums] using hvl.symm
  have i1 : IntKind.i64.wrap ((t : Int) - 1) = (i : Int) := by rw [IntWalk.i64_in _ (by omega)]; omega
  have HD : Calls Try.prog 6 #[pt kb, doArg 11 m 0] w (NumPost g (K.tick.make t) w (M : Nat)) := by
    have := do_packet F.R F.ok F.k F.best (by omega) (by have := F.en; omega) (by have := F.en; omega) (by have := F.c; omega) F.m (m : Int)
    rw [hKm, ← hM] at this
    exact this
  have HH := Lib.hid (And.intro HD (And.intro F (And.intro hs hfm)))
  have HT := Lib.hid (And.intro ht ht1)
  have q1 : ((t : Int) == 1) = true := beq_iff_eq.2 (by omega)
  have q2 : ((m : Int) < P) = True := eq_true hP
  have i3 : wrap64 ((m : Int) + 1) = (M : Int) := by rw [IntWalk.wrap64_in _ (by omega)]; omega
  have hMz : (m : Int) + 1 = (M : Int) := by omega
  obtain ⟨z, hz⟩ : ∃ z : Int, (t : Int) = z := ⟨_, rfl⟩
  rw [hz] at i1 q1 ⊢
  have HZ := Lib.hid hz
  clear hz hs s1 s2 c0 cz ht HD F hP hvl ht1 hfm hKm hM
  go_enter Try.func9, Try.ntmps9
  go_upto_region 2 with fail
  go_step
  go_wp2_with fail
  refine HH.out.1.mono ?_
  rintro e1 w1 ⟨rfl, g1, R1, T1⟩
  have S1 := HH.out.2.1.S.step T1
  obtain ⟨vs', vt', cur', -, -, -, -, -, -, s1, s2, d0, d1, d2, df⟩ := S1.at hi
  rw [HH.out.2.2.2] at d2
  have HR := Lib.hid (And.intro R1 (And.intro T1 S1))
  clear R1 T1 S1 s1 s2
  go_upto_region 11 with fail
  obtain ⟨S2, R2, T2⟩ := HR.out.2.2.set_made HR.out.1 (m := M) hi
  obtain ⟨w2, hw2⟩ : ∃ w2, w1.setCell ⟨lb, i * 3 + 2, none⟩ (.int .i64 M) = w2 := ⟨_, rfl⟩
  rw [hw2] at S2 R2 T2 ⊢
  obtain ⟨vs3, vt3, cur3, -, -, -, -, -, -, s3, -, e0, -, e2, -⟩ := S2.at hi
  rw [updN_self] at s3 e2
  obtain ⟨xa, xn, xc, rfl, -⟩ := s3.1.form
  have HL3 : Hid ((nums (f i).sends).length ≤ 1000) := Lib.hid (by rw [HH.out.2.2.1]; decide)
  have HS := Lib.hid (And.intro S2 (And.intro R2 (And.intro T2 s3)))
  clear S2 R2 T2 s3 hw2 d0 d1 d2 df
  go_upto_region 12 with (at_builtin; refine wpList_append _ rfl _ _ 22 22 rfl 3 1 8 (.int .i64 0) Try.underlying22 (.inr ⟨_, Try.underlying22⟩) elemInt (.slice xa xn xc) _ rfl ((HS.out.2.2.2).1.turn ((Turn.refl (fun _ => False) w2).alloc _) (fun _ _ hh => hh)) _ _ _ rfl (Src.one rfl (heap_alloc_new w2 _)) (by intro u hu; simp at hu; subst hu; rfl) (app_b1 HL3.out) (app_b2 HL3.out) ?_; intro v' w4 hv' ht hw hn; clear hn; have hcl := (HS.out.1).app_cells (by simp) (HS.out.2.2.2) ht; have b3 : w4.cell? ⟨lb, i * 3, none⟩ = some (.slice xa xn xc) := (hcl.1 _).trans e0; have b4 : w4.cell? ⟨lb, i * 3 + 2, none⟩ = some (.int .i64 M) := (hcl.1 _).trans e2; have b3f := hcl.2; obtain ⟨rba, rbn, rbc, rfl, -⟩ := hv'.form; have hF2 := Lib.hid (And.intro hv' (And.intro ht hw)); clear hv' ht hw hcl)
  obtain ⟨σ5, S5, R5, T5⟩ := HS.out.1.set_app HS.out.2.1 hi (p := M) (.inl rfl) (by rw [updN_self]; exact HS.out.2.2.2) (by rw [updN_self]; exact hF2.out.1) hF2.out.2.1 hF2.out.2.2
  have h5 : (w4.setCell ⟨lb, i * 3, none⟩ (.slice rba rbn rbc)).cell? ⟨lb, i * 3 + 2, none⟩ = some (.int .i64 M) := by
    obtain ⟨_, _, _, -, -, -, -, -, -, -, -, -, -, e2, -⟩ := S5.at hi
    rw [updN_self, if_pos rfl, updN_self] at e2
    exact e2
  have H5 := Lib.hid (And.intro S5 (And.intro R5 T5))
  clear S5 R5 T5 b3 b4 b3f
  go_wp2_with fail
  go_ret
  refine ⟨by simp, g1, σ5, H5.out.2.1, ?_, ((Step2.kern σ HR.out.2.1).trans HS.out.2.2.1).trans H5.out.2.2⟩
  have S5 := H5.out.1
  rw [updN_updN, updN_self, if_pos trivial, HH.out.2.2.1] at S5
  exact S5
end
end Go.Rnd
