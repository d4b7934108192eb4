/-
  turn, walked, by what the running task does.
-/
import Derived.Test.YtcfegaclbkggpaaRndServ
namespace Go.Rnd
open Go.Own Go.RowKit Go.Proofs

/-- A turn went well. -/
def TurnPost (g : Gh) (σ : Tags) (lb n : Nat) (K' : KS) (f' : Nat → SV) (w : World) (e : Ending) (w' : World) : Prop :=
  e = .returned (.bool true) ∧ ∃ g' σ', Rep g' K' w' ∧ Sv g' σ' lb n f' w' ∧ Step2 g g' σ σ' w w'

section
variable {g g' : Gh} {σ σ' : Tags} {lb n : Nat} {f : Nat → SV} {w w' : World} {K K' : KS}

/-- What each turn needs of the kernel and of the servers. -/
structure Fit (g : Gh) (σ : Tags) (lb n : Nat) (f : Nat → SV) (K : KS) (w : World) (kb i t : Nat) : Prop where
  R : Rep g K w
  S : Sv g σ lb n f w
  ok : K.Ok
  k : g.k = kb
  et : t = i + 1
  ei : i < n
  en : K.n = n
  n2 : 2 ≤ n
  n8 : n ≤ 8
  best : K.Best t
  c : K.c < 1000000
  m : K.m ≤ 100
  q : ∀ j, 1 ≤ j → j ≤ K.n → (K.ts j).q.length ≤ 1000
  v : K.v ≤ 1000000
  took : (f i).took.length ≤ 1000
  made : (f i).made ≤ 1000

theorem nx_ne {t n : Nat} (_h1 : 1 ≤ t) (h2 : t ≤ n) (h3 : 2 ≤ n) : 1 ≤ t % n + 1 ∧ t % n + 1 ≤ n ∧ t % n + 1 ≠ t := by
  have := Nat.mod_lt t (show n > 0 by omega)
  refine ⟨by omega, by omega, ?_⟩
  rcases Nat.lt_or_ge t n with h | h
  · rw [Nat.mod_eq_of_lt h]; omega
  · obtain rfl : t = n := by omega
    rw [Nat.mod_self]; omega

theorem updN_updN {α : Type} (f : Nat → α) (k : Nat) (x y : α) : updN (updN f k x) k y = updN f k y := by
  funext j
  unfold updN
  split <;> rfl

set_option maxRecDepth 10000 in
set_option maxHeartbeats 2000000 in
theorem turn_send {kb i t : Nat} (F : Fit g σ lb n f K w kb i t) {p : Nat} {r : List Nat} (hs : (f i).sends = p :: r) (hp1 : 1 ≤ p) (hp2 : p ≤ K.m) (hw : (K.ps p).wth = t) (P : Int) :
    Calls Try.prog 9 #[pt kb, .slice (some ⟨lb, 0, none⟩) n n, .int .i64 t, .int .i64 P] w (TurnPost g σ lb n (K.tick.send t p (t % n + 1)) (updN f i { f i with sends := r }) w) := by
  have hi := F.ei
  have ht := F.et
  have hn2 := F.n2
  have hn8 := F.n8
  obtain ⟨vs, vt, cur, c0, cz, -, -, -, -, s1, s2, d0, d1, d2, df⟩ := F.S.at F.ei
  obtain ⟨va, vn, vc, rfl, hvl, hvc, hvm, -⟩ := s1.1.form
  rw [hs] at hvl s1
  simp at hvl
  obtain ⟨B, off, rfl⟩ := s1.1.addr (by omega)
  have e0 : w.cell? ⟨B, off, none⟩ = some (.int .i64 p) := s1.1.cells 0 _ rfl
  have i1 : IntKind.i64.wrap ((t : Int) - 1) = (i : Int) := by rw [IntWalk.i64_in _ (by omega)]; omega
  have hnx := nx_ne (t := t) (n := n) (by omega) (by omega) hn2
  have i2 : wrap64 ((t : Int) % (n : Int) + 1) = ((t % n + 1 : Nat) : Int) := by
    have : (t : Int) % (n : Int) + 1 = ((t % n + 1 : Nat) : Int) := by push_cast; rfl
    rw [this]
    exact IntWalk.wrap64_in _ (by omega)
  have HD : ∀ sv, SliceT σ (2, (i : Int)) w 3 1 sv (nums r) → Calls Try.prog 6 #[pt kb, doArg 3 p (t % n + 1 : Nat)] (w.setCell ⟨lb, i * 3, none⟩ sv) (fun e w' =>
      e = .returned (.tuple #[.int .i64 0, .int .i64 0]) ∧ ∃ g' σ', Rep g' (K.tick.send t p (t % n + 1)) w' ∧ Sv g' σ' lb n (updN f i { f i with sends := r }) w' ∧ Step2 g g' σ σ' w w') := fun sv hsv => by
    obtain ⟨S1, R1, T1⟩ := F.S.set_pop F.R hi hsv
    refine (do_send R1 F.ok F.k F.best (by omega) (by have := F.en; omega) (by have := F.en; omega) F.c hnx.1 (by rw [F.en]; exact hnx.2.1) hnx.2.2 hp1 hp2 (by have := F.m; omega) hw (F.q _ hnx.1 (by rw [F.en]; exact hnx.2.1)) F.v).mono ?_
    rintro e w' ⟨rfl, g', R2, T2⟩
    exact ⟨rfl, g', σ, R2, S1.step T2, T1.trans (Step2.kern σ T2)⟩
  have HH := Lib.hid (And.intro HD (And.intro s1 hnx))
  have HT := Lib.hid ht
  have HL := Lib.hid hvl
  have hvp : 1 ≤ vn := by omega
  clear hs hw s1 s2 c0 cz ht hp1 hp2 HD F hnx
  by_cases h1 : vc = 1
  · have hr : r = [] := List.eq_nil_of_length_eq_zero (by omega)
    have hv1 : vn = 1 := by omega
    subst hr h1 hv1
    clear hvl
    go_enter Try.func9, Try.ntmps9
    go_upto_region 2 with fail
    go_step
    go_wp2_with fail
    refine (HH.out.1 _ ⟨HH.out.2.1.1.empty, HH.out.2.1.2⟩).mono ?_
    rintro e1 w1 ⟨rfl, hr⟩
    have HR := Lib.hid hr
    clear hr
    go_wp2_with fail
    go_ret
    exact ⟨by simp, HR.out⟩
  · have hsv : SliceT σ (2, (i : Int)) w 3 1 (.slice (some ⟨B, off + 1, none⟩) (vn - 1) (vc - 1)) (nums r) := ⟨HH.out.2.1.1.drop 1 (by omega), HH.out.2.1.2⟩
    have HV := Lib.hid hsv
    clear hsv hvl
    go_enter Try.func9, Try.ntmps9
    go_upto_region 2 with fail
    go_step
    go_wp2_with fail
    refine (HH.out.1 _ HV.out).mono ?_
    rintro e1 w1 ⟨rfl, hr⟩
    have HR := Lib.hid hr
    clear hr
    go_wp2_with fail
    go_ret
    exact ⟨by simp, HR.out⟩
end
end Go.Rnd
