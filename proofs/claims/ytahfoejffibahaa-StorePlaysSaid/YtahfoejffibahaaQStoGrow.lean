/-
  Grow, walked.
-/
import Derived.Deep.CutRange
import Derived.Deep.QuietTactic
import Derived.BigQuiet
import Derived.Laws.CopyOwn
import Derived.WalkSmall
import Derived.Test.YtahfoejffibahaaQStoTI
import Derived.Test.YtahfoejffibahaaQStoPure2
import Derived.Test.YtahfoejffibahaaQOwnRegionG
set_option linter.unusedVariables false

namespace Go.Sto
open Go.Own Go.RowKit Go.Proofs

section
variable {g : Ghost} {S : St} {w : World}

set_option maxRecDepth 100000 in
theorem grow_nil (a k : Int) (w : World) : Calls Try.prog 20 #[.pointer none, .int .i64 a, .int .i64 k] w fun e w' => e = .returned (.tuple #[.int .i64 0, .int .i64 3]) ∧ w = w' := by
  go_enter Try.func20, Try.ntmps20
  go_wp2
  go_ret2
  exact ⟨rfl, rfl⟩

set_option maxRecDepth 100000 in
theorem grow_none_calls (h : Repo g S w) {s : Nat} (hs : g.s = s) {a : Int} (k : Int) (hno : ∀ A x B, g.L = A ++ x :: B → isAt a (sz (bs A)) x.b = false) :
    Calls Try.prog 20 #[.pointer (some ⟨s, 0, none⟩), .int .i64 a, .int .i64 k] w fun e w' => e = .returned (.tuple #[.int .i64 0, .int .i64 180]) ∧ Below w.heap.size w w' := by
  have hc := Lib.hid (used_none h.rep h.ok.le hs hno)
  clear hno hs h
  go_enter Try.func20, Try.ntmps20
  go_wp2_with (go_at_call 48; refine hc.out.mono ?_; rintro e w1 ⟨rfl, hB⟩)
  go_ret2
  exact ⟨rfl, hB⟩

set_option maxRecDepth 100000 in
theorem grow_range_calls (h : Repo g S w) {s : Nat} (hs : g.s = s) {a : Int} (k : Int) (hk : k < 0 ∨ 32000 < k) {A B : List Nd} {x : Nd} (hAB : g.L = A ++ x :: B) (hat : isAt a (sz (bs A)) x.b = true) (hne : ∀ A' y B', A = A' ++ y :: B' → isAt a (sz (bs A')) y.b = false) :
    Calls Try.prog 20 #[.pointer (some ⟨s, 0, none⟩), .int .i64 a, .int .i64 k] w fun e w' => e = .returned (.tuple #[.int .i64 0, .int .i64 1]) ∧ Below w.heap.size w w' := by
  have hc := Lib.hid (used_hit h.rep h.ok.le hs hAB hat hne)
  clear hne hat hAB hs h
  rcases Int.lt_or_le k 0 with hk' | hk'
  · have q1 : decide (k < 0) = true := decide_eq_true hk'
    clear hk
    go_enter Try.func20, Try.ntmps20
    go_wp2_with (go_at_call 48; refine hc.out.mono ?_; rintro e w1 ⟨rfl, hB⟩)
    go_ret2
    exact ⟨rfl, hB⟩
  · have q1 : decide (k < 0) = false := by simp; omega
    have q2 : decide (32000 < k) = true := by simp; omega
    clear hk
    go_enter Try.func20, Try.ntmps20
    go_wp2_with (go_at_call 48; refine hc.out.mono ?_; rintro e w1 ⟨rfl, hB⟩)
    go_ret2
    exact ⟨rfl, hB⟩

def StayA (g : Ghost) (A : List Nd) (x : Nd) (m : Nat) (SB : St) (w0 w : World) : Prop :=
  ∃ g1 n1 B1, g1.L = A ++ ⟨x.p, x.v, ⟨n1, x.b.used, x.b.ws⟩⟩ :: B1 ∧ m ≤ n1 ∧ rest n1 m ++ bs B1 = SB ∧ sz (bs A) + n1 + sz (bs B1) ≤ 32000 ∧ Rep g1 (bs g1.L) w ∧ Step g g1 w0 w

def StayB (g : Ghost) (A : List Nd) (x : Nd) (m : Nat) (SB : St) (w0 w : World) : Prop :=
  ∃ g3 C3, g3.L = A ++ ⟨x.p, x.v, ⟨m, x.b.used, x.b.ws⟩⟩ :: C3 ∧ bs C3 = fuse SB ∧ Rep g3 (bs g3.L) w ∧ Step g g3 w0 w

def GrowPost (g : Ghost) (A : List Nd) (x : Nd) (m : Nat) (a : Int) (SB : St) (w : World) (e : Ending) (w' : World) : Prop :=
  e = .returned (.tuple #[.int .i64 a, .int .i64 0]) ∧ ∃ g', bs g'.L = bs A ++ ⟨m, true, resize x.b.ws (m - 1)⟩ :: fuse SB ∧ Rep g' (bs g'.L) w' ∧ Step g g' w w'

def Two : List Nd → Bool
  | y :: z :: _ => !y.b.used && !z.b.used
  | _ => false

theorem splice_resize (l : List Int) (m : Nat) : splice (icells (zeros m)) 0 ((icells l).take (Nat.min l.length m)) = icells (resize l m) := by
  unfold splice resize
  rw [List.take_zero, List.nil_append, Nat.zero_add, List.length_take, icells_length]
  have e : min (Nat.min l.length m) l.length = min l.length m := by show min (min l.length m) l.length = _; omega
  have e2 : Nat.min l.length m = min l.length m := rfl
  rw [e, e2, icells_take, icells_append, List.take_append, icells_length]
  congr 1
  · by_cases h : l.length ≤ m
    · rw [Nat.min_eq_left h, List.take_of_length_le (by simp), List.take_of_length_le (by simpa using h)]
    · rw [Nat.min_eq_right (by omega)]
  · rw [icells_zeros, List.drop_replicate, List.take_replicate]
    congr 1; omega

theorem sz_le_of {A B : List Nd} {x : Nd} (h : Repo g S w) (hAB : g.L = A ++ x :: B) : sz (bs A) + x.b.size + sz (bs B) ≤ 32000 := by
  have := h.ok.le
  rw [h.rep.map, hAB, bs_append, sz_append] at this
  simp only [bs_cons, sz] at this; omega

set_option maxRecDepth 100000 in
set_option maxHeartbeats 4000000 in
theorem grow_stay_calls (h : Repo g S w) {s : Nat} (hs : g.s = s) {a : Int} (k : Int) (h0 : 0 ≤ k) (h1 : k ≤ 32000) {A B : List Nd} {x : Nd} (hAB : g.L = A ++ x :: B) (hat : isAt a (sz (bs A)) x.b = true) (hne : ∀ A' y B', A = A' ++ y :: B' → isAt a (sz (bs A')) y.b = false)
    {m : Nat} (hm : need k = m) {SB : St} (hb : Behind x.b (bs B) m SB) :
    Calls Try.prog 20 #[.pointer (some ⟨s, 0, none⟩), .int .i64 a, .int .i64 k] w (GrowPost g A x m a SB w) := by
  subst hs
  have hm0 : 2 ≤ m ∧ m ≤ 32002 := by unfold need at hm; omega
  have q1 : decide (k < 0) = false := by simp; omega
  have q2 : decide (32000 < k) = false := by simp; omega
  have hsz := sz_le_of h hAB
  have hok : Ok g.n (bs A ++ x.b :: bs B) := by have := h.ok; rw [h.rep.map, hAB, bs_append, bs_cons] at this; exact this
  obtain ⟨hn1, hn2, hn3⟩ := behind_facts hok hb
  have hu := used_of hat
  have hgood := (hok.good x.b (by simp))
  have hfull := hgood.full hu
  have hc := Lib.hid (used_hit h.rep h.ok.le rfl hAB hat hne)
  have HM := Lib.hid hm
  have HR := Lib.hid (And.intro h.rep (And.intro hAB (And.intro hb hok)))
  have HN := Lib.hid (And.intro hn1 (And.intro hn2 (And.intro hn3 (And.intro hu hfull))))
  clear hne hat hAB h hm hb hn1 hn2 hn3 hok hgood hu hfull
  go_enter Try.func20, Try.ntmps20
  go_upto_region 9 with (first
    | (go_at_call 48; refine hc.out.mono ?_; rintro e w1 ⟨rfl, hB⟩; have HB := Lib.hid hB; clear hB)
    | (go_at_call 45; refine (need_calls' k h0 h1 HM.out _).mono ?_; rintro e w1 ⟨rfl, rfl⟩))
  go_cut [68] from 30 to 68 (fun v wx => v = .bool (decide (x.b.size < m)) ∧ Below w1.heap.size w1 wx)
  case first =>
    have r1 := HR.out.1.below HB.out (Nat.le_refl _)
    obtain ⟨-, c1, -, -, c4, -, -⟩ := nd_cells (r1.mid HR.out.2.1)
    rcases HR.out.2.2.1 with ⟨hfit, -⟩ | ⟨hlt, y', C', hBC, hyu, hyf, -⟩
    · have hq : decide (((x.b.size : Nat) : Int) < m) = false := by simp; omega
      have hq2 : decide (x.b.size < m) = false := by simp; omega
      clear hfit c4 r1
      go_quiet (fail)
      go_wp2_with fail
      go_meet
      exact ⟨by rw [hq2], below_drewN (Below.refl _ _) _⟩
    · obtain ⟨y, C, rfl, rfl, rfl⟩ : ∃ y C, B = y :: C ∧ y.b = y' ∧ bs C = C' := by
        cases B with
        | nil => cases hBC
        | cons y C => cases hBC; exact ⟨y, C, rfl, rfl, rfl⟩
      have e2 : g.L = (A ++ [x]) ++ y :: C := by rw [HR.out.2.1]; simp
      obtain ⟨-, d1, d2, -⟩ := nd_cells (r1.mid e2)
      rw [hyu] at d2
      simp only [hd, ptr_some] at c4
      have hq : decide (((x.b.size : Nat) : Int) < m) = true := by simp; omega
      have hq2 : decide (x.b.size < m) = true := by simp; omega
      have hsum : x.b.size + y.b.size ≤ 32000 := by simp [sz] at hsz; omega
      have hw1 : IntKind.i64.wrap (((x.b.size : Nat) : Int) + (y.b.size : Nat)) = ((x.b.size : Nat) : Int) + (y.b.size : Nat) := IntWalk.i64_in _ (by omega)
      have hq3 : decide ((m : Int) ≤ ((x.b.size : Nat) : Int) + (y.b.size : Nat)) = true := by simp; omega
      clear hlt hBC hyu hyf r1 e2
      go_quiet (fail)
      go_wp2_with fail
      go_meet
      exact ⟨by rw [hq2], below_drewN (Below.refl _ _) _⟩
  case rest =>
    obtain ⟨rfl, hB2⟩ := hcut
    have hBw : Below w.heap.size w wc := HB.out.trans (hB2.mono HB.out.size)
    have HB2 := Lib.hid hBw
    clear hB2 hBw
    go_upto_if 68 with fail
    go_cut [] from 30 to 70 (fun wx => StayA g A x m SB w wx)
    case first =>
      rcases HR.out.2.2.1 with ⟨hfit, hSB⟩ | ⟨hlt, y', C', hBC, hyu, hyf, hSB⟩
      · have hq2 : decide (x.b.size < m) = false := by simp; omega
        have r2 := HR.out.1.below HB2.out (Nat.le_refl _)
        have fin : StayA g A x m SB w wc := ⟨g, x.b.size, B, HR.out.2.1, hfit, hSB.symm, hsz, HR.out.1.map ▸ r2, Step.bel HB2.out⟩
        have FIN := Lib.hid fin
        clear hfit hSB r2 fin
        rw [hq2]
        go_wp2_with fail
        go_meet
        exact FIN.out
      · obtain ⟨y, C, rfl, rfl, rfl⟩ : ∃ y C, B = y :: C ∧ y.b = y' ∧ bs C = C' := by
          cases B with
          | nil => cases hBC
          | cons y C => cases hBC; exact ⟨y, C, rfl, rfl, rfl⟩
        have hq2 : decide (x.b.size < m) = true := by simp; omega
        have r2 := HR.out.1.below HB2.out (Nat.le_refl _)
        have hle : sz S ≤ 32000 := by rw [HR.out.1.map, HR.out.2.1, bs_append, sz_append]; simp only [bs_cons, sz] at hsz ⊢; omega
        have hj := join_calls r2 HR.out.2.1 hle (p := x.p) rfl
        have HJ := Lib.hid (And.intro hj (And.intro hyf hSB))
        clear hlt hBC hyu hyf hSB r2 hle hj
        rw [hq2]
        go_wp2_with fail
        refine HJ.out.1.mono ?_
        rintro e w3 ⟨rfl, g3, e3, r3, s3⟩
        have fin : StayA g A x m SB w w3 := ⟨g3, x.b.size + y.b.size, C, e3, HJ.out.2.1, HJ.out.2.2.symm, by simp only [bs_cons, sz] at hsz; omega, r3, (Step.bel HB2.out).trans s3⟩
        have FIN := Lib.hid fin
        clear e3 r3 s3 fin
        go_wp2_with fail
        go_meet
        exact FIN.out
    case rest =>
      obtain ⟨g1, n1, B1, e1, hmn, hSB, hsz1, r1, s1⟩ := hcut
      have x1 : wc.cell? ⟨x.p, 1, none⟩ = some (.int .i64 n1) := (nd_cells (r1.mid e1)).2.1
      have q3 : decide ((n1 : Int) < m) = false := by simp; omega
      have q4 : decide (n1 < m) = false := by simp; omega
      have hct := cut_calls r1 e1 (by rw [e1, bs_append, sz_append]; simp only [bs_cons, sz]; omega) (p := x.p) rfl (m := m) hmn
      have HC := Lib.hid (And.intro hct (And.intro hSB s1))
      clear hct hSB s1 r1 e1 hmn
      go_upto_region 19 with (go_at_call 47; refine HC.out.1.mono ?_; rintro e w2 ⟨rfl, g2, R, hR, e2, r2, s2⟩; have H2 := Lib.hid (And.intro hR (And.intro e2 (And.intro r2 s2))); clear hR e2 r2 s2 x1)
      obtain ⟨C, hC⟩ : ∃ C, R ++ B1 = C := ⟨_, rfl⟩
      have hSC : bs C = SB := by rw [← hC, bs_append, H2.out.1]; exact HC.out.2.1
      have e2 : g2.L = A ++ ⟨x.p, x.v, ⟨m, x.b.used, x.b.ws⟩⟩ :: C := by rw [← hC]; exact H2.out.2.1
      have szC : sz (bs A) + m + sz (bs C) ≤ 32000 := by
        have h1 := HC.out.2.1
        have h2 := congrArg sz h1
        rw [sz_append] at h2
        rw [hSC, ← h2]
        by_cases hmn2 : n1 = m
        · simp [rest, hmn2, sz]; omega
        · have h3 : n1 ≥ m := by simp at q4; exact q4
          rw [rest_sum h3]; omega
      have HE := Lib.hid (And.intro hSC (And.intro e2 szC))
      clear hSC e2 szC hC
      go_cut [140] from 103 to 140 (fun v wx => v = .bool (Two C) ∧ wx = w2)
      case first =>
        have r2 := H2.out.2.2.1
        have c4 : w2.cell? ⟨x.p, 4, none⟩ = some (ptr (hd C none)) := (nd_cells (r2.mid HE.out.2.1)).2.2.2.2.1
        cases C with
        | nil =>
          simp only [hd, ptr_none] at c4
          clear r2
          go_wp2_with fail
          go_meet
          exact ⟨rfl, rfl⟩
        | cons y D =>
          have e3 : g2.L = (A ++ [⟨x.p, x.v, ⟨m, x.b.used, x.b.ws⟩⟩]) ++ y :: D := by rw [HE.out.2.1]; simp
          obtain ⟨-, -, d2, -, d4, -, -⟩ := nd_cells (r2.mid e3)
          simp only [hd, ptr_some] at c4
          rcases hyu : y.b.used with _ | _
          · rw [hyu] at d2
            cases D with
            | nil =>
              simp only [hd, ptr_none] at d4
              clear r2 e3 hyu
              go_wp2_with fail
              go_meet
              exact ⟨rfl, rfl⟩
            | cons z D =>
              have e4 : g2.L = (A ++ [⟨x.p, x.v, ⟨m, x.b.used, x.b.ws⟩⟩, y]) ++ z :: D := by rw [HE.out.2.1]; simp
              obtain ⟨-, -, f2, -⟩ := nd_cells (r2.mid e4)
              simp only [hd, ptr_some] at d4
              have HY := Lib.hid hyu
              clear r2 e3 e4 hyu
              go_wp2_with fail
              go_meet
              exact ⟨by simp [Two, HY.out], rfl⟩
          · rw [hyu] at d2
            have HY := Lib.hid hyu
            clear r2 e3 hyu d4
            go_wp2_with fail
            go_meet
            exact ⟨by cases D <;> simp [Two, HY.out], rfl⟩
      case rest =>
        obtain ⟨rfl, rfl⟩ := hcut
        go_upto_if 140 with fail
        go_cut [] from 103 to 145 (fun wx => StayB g A x m SB w wx)
        case first =>
          have r3 := H2.out.2.2.1
          have s3 := HC.out.2.2.trans H2.out.2.2.2
          cases htw : Two C with
          | false =>
            have hfu : fuse SB = SB := by
              rw [← HE.out.1]
              have hn := HN.out.1
              rw [← HE.out.1] at hn
              match C, htw, hn with
              | [], _, _ => rfl
              | [y], _, _ => rfl
              | y :: z :: D, htw, hn =>
                have hn2 : Norm (bs (z :: D)) := hn _ _ rfl
                show fuse (y.b :: bs (z :: D)) = _
                rw [fuse_cons hn2]
                simp only [bs_cons, add]
                rw [if_neg (by intro hh; simp [Two, hh.1, hh.2] at htw)]
            have fin : StayB g A x m SB w wc := ⟨g2, C, HE.out.2.1, HE.out.1.trans hfu.symm, r3, s3⟩
            have FIN := Lib.hid fin
            clear r3 s3 hfu fin htw
            go_wp2_with fail
            go_meet
            exact FIN.out
          | true =>
            obtain ⟨y, z, D, rfl, hy, hz⟩ : ∃ y z D, C = y :: z :: D ∧ y.b.used = false ∧ z.b.used = false := by
              match C, htw with
              | y :: z :: D, htw => simp [Two] at htw; exact ⟨y, z, D, rfl, htw.1, htw.2⟩
            have e3 : g2.L = (A ++ [⟨x.p, x.v, ⟨m, x.b.used, x.b.ws⟩⟩]) ++ y :: z :: D := by rw [HE.out.2.1]; simp
            have c4 : wc.cell? ⟨x.p, 4, none⟩ = some (ptr (some y.p)) := (nd_cells (r3.mid HE.out.2.1)).2.2.2.2.1
            have hws : y.b.ws = [] := HN.out.2.1 _ (by rw [← HE.out.1]; simp) hy
            have hle : sz (bs g2.L) ≤ 32000 := by rw [HE.out.2.1, bs_append, sz_append]; have := HE.out.2.2; simp only [bs_cons, sz] at this ⊢; omega
            have hj := join_calls r3 e3 hle (p := y.p) rfl
            have hfu : fuse SB = hole (y.b.size + z.b.size) :: bs D := by
              rw [← HE.out.1]
              have hn := HN.out.1
              rw [← HE.out.1] at hn
              have hn2 : Norm (bs (z :: D)) := hn _ _ rfl
              show fuse (y.b :: bs (z :: D)) = _
              rw [fuse_cons hn2]
              simp only [bs_cons, add]
              rw [if_pos ⟨hy, hz⟩]
            have HJ := Lib.hid (And.intro hj (And.intro hfu (And.intro s3 (And.intro hy hws))))
            simp only [ptr_some] at c4
            clear r3 s3 hfu hj hle e3 htw hy hz hws
            go_wp2_with fail
            refine HJ.out.1.mono ?_
            rintro e w4 ⟨rfl, g4, e4, r4, s4⟩
            have fin : StayB g A x m SB w w4 := ⟨g4, ⟨y.p, y.v, ⟨y.b.size + z.b.size, y.b.used, y.b.ws⟩⟩ :: D, by rw [e4]; simp, by rw [HJ.out.2.1, bs_cons, HJ.out.2.2.2.1, HJ.out.2.2.2.2]; rfl, r4, HJ.out.2.2.1.trans s4⟩
            have FIN := Lib.hid fin
            clear e4 r4 s4 fin c4
            go_wp2_with fail
            go_meet
            exact FIN.out
        case rest =>
          obtain ⟨g3, C3, e3, hC3, r3, s3⟩ := hcut
          have hx3 : wc.cell? ⟨x.p, 3, none⟩ = some x.v := (nd_cells (r3.mid e3)).2.2.2.1
          have hf3 : wc.frozen? ⟨x.p, 3, none⟩ = false := (nd_cells (r3.mid e3)).2.2.2.2.2.2 3
          have hlt := cell_lt hx3
          have hxs : x.p ≠ wc.heap.size := by have : x.p < wc.heap.size := hlt; omega
          have hwv := (r3.wv ⟨x.p, x.v, ⟨m, x.b.used, x.b.ws⟩⟩ (by rw [e3]; simp)).1
          obtain ⟨a2, n2, cap2, hv, hl2, hn2, hcm2, ha2⟩ := hwv.form
          have hv' : x.v = .slice a2 n2 cap2 := hv
          have hn2' : n2 = x.b.ws.length := by simpa using hl2.symm
          subst hn2'
          rw [hv'] at hx3
          have hws0 : 0 < x.b.ws.length := by have := HN.out.2.2.2.2; have := HN.out.1; have h5 := HR.out.2.2.2.good x.b (by simp); have := h5.two; omega
          obtain ⟨b2, off2, rfl⟩ := SliceAt.addr (by rw [← hv]; exact hwv) hws0
          have hsl : SliceAt wc 3 1 (.slice (some ⟨b2, off2, none⟩) x.b.ws.length cap2) (icells x.b.ws) := by rw [← hv]; exact hwv
          have H3 := Lib.hid (And.intro e3 (And.intro hC3 (And.intro r3 (And.intro s3 hsl))))
          have hmk := make_ints ((m : Int) - 1) (m - 1) (by omega) (by omega)
          have hw1 : IntKind.i64.wrap ((m : Int) - 1) = (m : Int) - 1 := IntWalk.i64_in _ (by omega)
          have hsz0 : wc.heap.size < wc.heap.size + 1 := Nat.lt_succ_self _
          clear e3 hC3 r3 s3 hsl hwv hv hv' hl2 hn2 hcm2 ha2
          go_upto_region 22 with fail
          have hnew := World.alloc_heap_new wc (.cells (icells (zeros (m - 1))).toArray 3)
          have hold : ∀ j, j < wc.heap.size → (wc.alloc (.cells (icells (zeros (m - 1))).toArray 3)).heap[j]? = wc.heap[j]? := fun j hj => heap_alloc_lt wc _ j hj
          have hbl : b2 < wc.heap.size := H3.out.2.2.2.2.lt b2 rfl
          have hsl4 : SliceAt (wc.alloc (.cells (icells (zeros (m - 1))).toArray 3)) 3 1 (.slice (some ⟨b2, off2, none⟩) x.b.ws.length cap2) (icells x.b.ws) := SliceAt.alloc H3.out.2.2.2.2 _
          have HO := Lib.hid (And.intro hnew (And.intro hold hsl4))
          clear hnew hold hsl4
          go_wp2_with (with_reducible refine wpList_copy_splice rfl (.tmp 149) (.tmp 153) 24 24 rfl 3 Try.underlying24 (by kernel_rfl) (some ⟨wc.heap.size, 0, none⟩) (some ⟨b2, off2, none⟩) (m - 1) (m - 1) x.b.ws.length cap2 rfl rfl wc.heap.size 0 (icells (zeros (m - 1))) 3 ?c1 ((icells x.b.ws).take (Nat.min x.b.ws.length (m - 1))) ?c2 ?c3 ?c4 ?c5 wc.heap.size wc ?c6 (Nat.le_refl _) ?_)
          case c1 => exact (Array.getElem?_eq_some_iff.1 HO.out.1).2
          case c3 =>
            intro _ j v hj
            refine H3.out.2.2.2.2.cells j v ?_
            rw [List.getElem?_take] at hj
            split at hj
            · exact hj
            · cases hj
          case c4 => simp only [zeros, List.length_replicate]; omega
          case c5 => intro v hv; exact oneCell_icells _ v (List.mem_of_mem_take hv)
          case c6 => exact (Below.refl _ _).alloc (Nat.le_refl _) _
          intro w5 hw5 hB5
          rw [splice_resize] at hw5
          have hx5 : w5.cell? ⟨x.p, 3, none⟩ = some (.slice (some ⟨b2, off2, none⟩) x.b.ws.length cap2) := (hB5.cell (p := ⟨x.p, 3, none⟩) hlt).trans hx3
          have hf5 : w5.frozen? ⟨x.p, 3, none⟩ = false := (hB5.frozen (p := ⟨x.p, 3, none⟩) hlt).trans hf3
          have H5 := Lib.hid (And.intro hw5.out hB5)
          clear hw5 hB5 hmk hx3 hf3
          go_wp2_with fail
          go_ret2
          have hx := H3.out.2.2.1.mid H3.out.1
          have hx5' : w5.heap[x.p]? = _ := (H5.out.2.block x.p hlt).trans hx
          have hK : KeepsOthers wc w5 := ⟨H5.out.2.size, fun k o hk _ => (H5.out.2.block k (heap_lt hk)).trans hk⟩
          obtain ⟨g6, e6, r6, s6⟩ := H3.out.2.2.1.refill H3.out.1 ⟨m, true, resize x.b.ws (m - 1)⟩ rfl (.slice (some ⟨wc.heap.size, 0, none⟩) (m - 1) (m - 1)) (hK.trans (KeepsOthers.setCell w5 ⟨x.p, 3, none⟩ (.slice (some ⟨wc.heap.size, 0, none⟩) (m - 1) (m - 1))))
            (Turn.setCell ⟨H5.out.2.os, H5.out.2.tape, H5.out.2.output, H5.out.2.size, fun k hk _ => H5.out.2.block k hk⟩ (p := ⟨x.p, 3, none⟩) (fun _ => .inl rfl) _)
            (by
              rw [heap_setCell_self _ hx5', HN.out.2.2.2.1]
              rfl)
            (by
              have h1 := SliceAt.made (w := w5.setCell ⟨x.p, 3, none⟩ (.slice (some ⟨wc.heap.size, 0, none⟩) (m - 1) (m - 1))) (n := m - 1) (sz := 1) ((heap_setCell_ne _ (by exact fun e => hxs e.symm)).trans H5.out.1) (by simp [resize, zeros]) (by unfold maxLen; omega)
              exact h1)
            (fun k hk => by simp [Value.ownBlock] at hk; left; omega)
          refine ⟨rfl, g6, ?_, r6, H3.out.2.2.2.1.trans s6⟩
          rw [e6, bs_append, bs_cons, H3.out.2.1]
end
end Go.Sto
