/-
  number, ids, cmp.Compare, walked.
-/
import Derived.Test.YtcfegaclbkggpaaRndNew
namespace Go.Rnd
open Go.Own Go.RowKit Go.Proofs

section
variable {g : Gh} {K : KS} {w w' : World}

/-- cmp.Compare at int. -/
def cmpI (x y : Int) : Int := if x < y then -1 else if y < x then 1 else 0

theorem number_calls (h : Rep g K w) {p : Nat} (h1 : 1 ≤ p) (h2 : p ≤ K.m) : Calls Try.prog 27 #[pt (g.pb p)] w fun e w' => e = .returned (.int .i64 p) ∧ w' = w := by
  obtain ⟨ty, ow, pq⟩ := h.pack p h1 h2
  obtain ⟨q0, -, -, -, -⟩ := p_cells pq
  clear h pq
  go_enter Try.func27, Try.ntmps27
  go_wp2
  go_ret
  exact ⟨rfl, rfl⟩

theorem nan_calls (x : Int) (w : World) : Calls Try.prog 43 #[.int .i64 x] w fun e w' => e = .returned (.bool false) ∧ w' = w := by
  go_enter Try.func43, Try.ntmps43
  go_wp2
  go_ret
  exact ⟨by simp, rfl⟩

set_option maxHeartbeats 1000000 in
theorem compare_calls (x y : Int) (w : World) : Calls Try.prog 30 #[.int .i64 x, .int .i64 y] w fun e w' => e = .returned (.int .i64 (cmpI x y)) ∧ w' = w := by
  by_cases h1 : x < y
  · have q1 : decide (x < y) = true := decide_eq_true h1
    have e : cmpI x y = -1 := by unfold cmpI; rw [if_pos h1]
    rw [e]
    go_enter Try.func30, Try.ntmps30
    go_wp2_with (go_at_call 43; refine (nan_calls _ _).mono ?_; rintro e6 w6 ⟨rfl, rfl⟩)
    go_ret
    exact ⟨rfl, rfl⟩
  · have q1 : decide (x < y) = false := decide_eq_false h1
    by_cases h2 : y < x
    · have q2 : decide (y < x) = true := decide_eq_true h2
      have e : cmpI x y = 1 := by unfold cmpI; rw [if_neg h1, if_pos h2]
      rw [e]
      go_enter Try.func30, Try.ntmps30
      go_wp2_with (go_at_call 43; refine (nan_calls _ _).mono ?_; rintro e6 w6 ⟨rfl, rfl⟩)
      go_ret
      exact ⟨rfl, rfl⟩
    · have q2 : decide (y < x) = false := decide_eq_false h2
      have e : cmpI x y = 0 := by unfold cmpI; rw [if_neg h1, if_neg h2]
      rw [e]
      go_enter Try.func30, Try.ntmps30
      go_wp2_with (go_at_call 43; refine (nan_calls _ _).mono ?_; rintro e6 w6 ⟨rfl, rfl⟩)
      go_ret
      exact ⟨rfl, rfl⟩

theorem ints_form {w : World} {v : Value} {xs : List Value} (h : SliceAt w 3 1 v xs) : ∃ a cap, v = .slice a xs.length cap := by
  obtain ⟨a, n, cap, rfl, hl, hn, hm, -⟩ := h.form
  rw [Nat.mul_one] at hl
  subst hl
  exact ⟨a, cap, rfl⟩

/-- The numbers in a queue: some slice of ints, of the call's own. -/
def IdsPost (w : World) (e : Ending) (w' : World) : Prop := ∃ v, e = .returned v ∧ (∃ a n c, v = .slice a n c) ∧ Turn (fun _ => False) w w'

set_option maxRecDepth 10000 in
set_option maxHeartbeats 2000000 in
theorem ids_calls (h : Rep g K w) {i : Nat} (h1 : 1 ≤ i) (h2 : i ≤ K.n) (hl : (K.ts i).q.length ≤ 1000) :
    Calls Try.prog 26 #[.pointer (some ⟨g.tb i, 7, none⟩), .func (.func 27) #[] #[]] w (IdsPost w) := by
  obtain ⟨v, q, qs⟩ := h.task i h1 h2
  obtain ⟨qa, qc, rfl, -, -, hcell⟩ := packs_form qs.1
  obtain ⟨-, -, -, -, -, t7, -⟩ := t_cells q
  obtain ⟨N, hN⟩ : ∃ N, (qv g.pb (K.ts i).q).length = N := ⟨_, rfl⟩
  rw [hN] at t7
  have hNl : N = (K.ts i).q.length := by rw [← hN]; simp [qv]
  have H := Lib.hid (And.intro h (And.intro hcell (And.intro hNl hl)))
  clear h q qs hcell hNl hl hN
  go_enter Try.func26, Try.ntmps26
  go_wp2_with fail
  go_loopg [5, 13] (N) (fun gk ov iv wr => ∃ (k : Nat) (xs : List Value), gk + k = N ∧ iv = .int .i64 k ∧ xs.length = k ∧ SliceAt wr 3 1 ov xs ∧ (∀ b, ov.ownBlock = some b → w.heap.size ≤ b) ∧ Turn (fun _ => False) w wr)
  case atStart => exact ⟨0, [], rfl, rfl, rfl, SliceAt.nil _ _ _, fun b hb => by simp [Value.ownBlock] at hb, Turn.refl _ _⟩
  case round =>
    obtain ⟨k, xs, hk, rfl, hx, hs, hb, hT⟩ := hrel
    obtain ⟨oa, oc, rfl⟩ := ints_form hs
    by_cases hlt : k < N
    · obtain ⟨p, hp⟩ : ∃ p, (K.ts i).q[k]? = some p := ⟨_, List.getElem?_eq_getElem (by have := H.out.2.2.1; omega)⟩
      obtain ⟨p1, p2⟩ := H.out.1.qok i h1 h2 p (List.mem_of_getElem? hp)
      obtain ⟨b, off, rfl, cj⟩ := H.out.2.1 k (pt (g.pb p)) (by simp [qv, hp])
      have hblt := World.block_lt_of_cell? w _ cj
      have cj' : wr.cell? ⟨b, off + k, none⟩ = some (pt (g.pb p)) := by rw [hT.cell (p := ⟨b, off + k, none⟩) (fun e => e) hblt]; exact cj
      have HX := Lib.hid (And.intro hs (And.intro hb (And.intro hT hx)))
      have HNm := Lib.hid (number_calls (H.out.1.new hT) p1 p2)
      clear hs hb hT hx cj hp
      have q1 : decide ((k : Int) < (N : Int)) = true := decide_eq_true (by omega)
      have q2 : decide ((N : Int) ≤ (k : Int)) = false := decide_eq_false (by omega)
      have q3 : decide (N ≤ k) = false := decide_eq_false (by omega)
      generalize hG : gk = GK at *
      clear hG
      have hk1000 : k ≤ 1000 := by have := H.out.2.2.1; have := H.out.2.2.2; omega
      go_wp2_with fail
      refine HNm.out.mono ?_
      rintro e6 w6 ⟨rfl, hw6⟩
      have hw6 := hw6.symm
      subst hw6
      go_wp2_with (at_builtin; refine wpList_append _ rfl _ _ 22 22 rfl 3 1 8 (.int .i64 0) Try.underlying22 (.inr ⟨_, Try.underlying22⟩) elemInt (.slice oa xs.length oc) _ rfl (HX.out.1.turn ((Turn.refl (fun _ => False) wr).alloc _) (fun _ _ hh => hh)) _ _ _ rfl (Src.one rfl (heap_alloc_new wr _)) (by intro u hu; simp at hu; subst hu; rfl) (by have := HX.out.2.2.2; simp; omega) (by have := HX.out.2.2.2; simp; omega) ?_
                   intro v' w1 hv' ht hw hn; clear hn; obtain ⟨va, vn, vc, rfl, -⟩ := hv'.form
                   have hF := Lib.hid (And.intro hv' (And.intro ht hw))
                   clear hv' ht hw)
      go_roundg (GK - 1)
      case measure => omega
      case rel =>
        have hz := HX.out.2.2.1.size
        refine ⟨k + 1, _, by omega, by go_num, ?_, hF.out.1, fun b' hb' => ?_, ?_⟩
        · simp [HX.out.2.2.2]
        · rcases hF.out.2.2 with e | e
          · exact HX.out.2.1 b' (e ▸ hb')
          · rw [e] at hb'
            have := Option.some.inj hb'
            simp at this
            omega
        · have t1 := hF.out.2.1
          refine ⟨t1.os.trans HX.out.2.2.1.os, t1.tape.trans HX.out.2.2.1.tape, t1.output.trans HX.out.2.2.1.output, by have := t1.size; simp at this; omega, fun b' hb' _ => ?_⟩
          rw [t1.block b' (by simp; omega) (fun e => by have := HX.out.2.1 b' e; omega), heap_alloc_lt wr _ _ (by omega)]
          exact HX.out.2.2.1.block b' hb' (fun e => e)
    · obtain rfl : k = N := by omega
      have HX := Lib.hid hT
      have q1 : decide ((k : Int) < (k : Int)) = false := decide_eq_false (by omega)
      clear hs hb hT
      go_wp2_with fail
      go_ret
      exact ⟨_, rfl, ⟨_, _, _, rfl⟩, HX.out⟩
end
end Go.Rnd
