/-
  StoreDoes, walked.
-/
import Derived.Test.YtahfoejffibahaaQStoDone2
import Derived.Test.YtahfoejffibahaaQOwnRegionHL
import Derived.Test.YtahfoejffibahaaQOwnRegionHOn
set_option linter.unusedVariables false

namespace Go.Sto
open Go.Own Go.RowKit Go.Proofs

def NoK : Nat → Obj → Prop := fun _ _ => False
def TK (tb : Nat) (v : Value) : Nat → Obj → Prop := fun k o => k = tb ∧ o = .cells #[v] 59 (0, 0)

section
variable {w0 w w' : World} {n : Nat} {K : Nat → Obj → Prop} {g g' : Ghost} {S S' T T' : St} {v v' : Value} {L L' : List RN}
theorem DI.bare (h : DI w0 n K g S v L T w) : DI w0 n NoK g S v L T w := { h with kp := fun _ _ e => e.elim }
theorem DI.box (h : DI w0 n NoK g S v L T w) {tb : Nat} {u : Value} (hb : w.heap[tb]? = some (.cells #[u] 59 (0, 0))) (h0 : (g.ρ tb).1 = 0) : DI w0 n (TK tb u) g S v L T w := { h with kp := fun k o e => by obtain ⟨rfl, rfl⟩ := e; exact ⟨hb, h0⟩ }
end

/-- What stands at the head of a round: the two stores, the reference's in the box tb. -/
def DoI (w0 : World) (n tb : Nat) (sv : Value) (w : World) : Prop :=
  ∃ g S v L, sv = .pointer (some ⟨g.s, 0, none⟩) ∧ DI w0 n NoK g S v L S w ∧ w.heap[tb]? = some (.cells #[v] 59 (0, 0)) ∧ (g.ρ tb).1 = 0 ∧ w0.heap.size ≤ tb

theorem DoI.drew {w0 w : World} {n tb : Nat} {sv : Value} (h : DoI w0 n tb sv w) : DoI w0 n tb sv w.drew := by
  obtain ⟨g, S, v, L, h1, h2, h3, h4, h5⟩ := h
  exact ⟨g, S, v, L, h1, h2.below (Below.refl _ w).drew, h3, h4, h5⟩
theorem DoI.below {w0 w w' : World} {n tb : Nat} {sv : Value} (h : DoI w0 n tb sv w) (hB : Below w.heap.size w w') : DoI w0 n tb sv w' := by
  obtain ⟨g, S, v, L, h1, h2, h3, h4, h5⟩ := h
  exact ⟨g, S, v, L, h1, h2.below hB, (hB.block tb (heap_lt h3)).trans h3, h4, h5⟩

/-- What holds at each stage of the region of done. -/
structure D11 (W w0 : World) (n tb : Nat) (tv : Value) (s : Nat) (ξ : Nat → Value) (w : World) : Prop where
  z : s = 0 → w = W
  e : 1 ≤ s → ∃ g S v L, ξ 6 = .tuple #[.pointer (some ⟨g.s, 0, none⟩), .agg #[v], .bool true] ∧ (2 ≤ s → ξ 7 = .tuple #[.pointer (some ⟨g.s, 0, none⟩), .agg #[v], .bool true]) ∧ (s = 3 ∨ 5 ≤ s → ξ 8 = .pointer (some ⟨g.s, 0, none⟩)) ∧ (s = 4 ∨ s = 5 ∨ 7 ≤ s → ξ 9 = .agg #[v]) ∧ (6 ≤ s → ξ 11 = .pointer (some ⟨g.s, 0, none⟩)) ∧
    (s ≤ 7 → DI w0 n (TK tb tv) g S v L S w) ∧ (s = 8 → DI w0 n NoK g S v L S w ∧ w.heap[tb]? = some (.cells #[v] 59 (0, 0)) ∧ (g.ρ tb).1 = 0)

/-- What holds at each stage of the region of the comparison. -/
structure D14 (W : World) (l : BL) (s : Nat) (ξ : Nat → Value) (w : World) : Prop where
  b : Below W.heap.size W w
  e4 : 1 ≤ s → ∃ a c, ξ 4 = .slice a l.length c ∧ BlksC w a l
  e6 : 2 ≤ s → ∃ a c, ξ 6 = .slice a l.length c ∧ BlksC w a l
  e7 : 3 ≤ s → ξ 7 = .bool true

theorem ref_start (w : World) (n : Nat) (h0 : 4 ≤ n) (h1 : n ≤ 32000) :
    RC (((w.alloc (.cells #[.slice (some ⟨w.heap.size + 2, 0, none⟩) 1 1] 59)).alloc (.cells (icells (zeros n)).toArray 3)).alloc (.cells #[.slice (some ⟨w.heap.size + 1, 0, none⟩) n n, .bool false] 108)) (.slice (some ⟨w.heap.size + 2, 0, none⟩) 1 1) [⟨some ⟨w.heap.size + 1, 0, none⟩, n, n, false⟩] (newS n) := by
  have hA : (((w.alloc (.cells #[.slice (some ⟨w.heap.size + 2, 0, none⟩) 1 1] 59)).alloc (.cells (icells (zeros n)).toArray 3)).alloc (.cells #[.slice (some ⟨w.heap.size + 1, 0, none⟩) n n, .bool false] 108)).heap[w.heap.size + 2]? = some (.cells #[.slice (some ⟨w.heap.size + 1, 0, none⟩) n n, .bool false] 108 (0, 0)) := by
    have := heap_alloc_new ((w.alloc (.cells #[.slice (some ⟨w.heap.size + 2, 0, none⟩) 1 1] 59)).alloc (.cells (icells (zeros n)).toArray 3)) (.cells #[.slice (some ⟨w.heap.size + 1, 0, none⟩) n n, .bool false] 108)
    simpa using this
  have hW : (((w.alloc (.cells #[.slice (some ⟨w.heap.size + 2, 0, none⟩) 1 1] 59)).alloc (.cells (icells (zeros n)).toArray 3)).alloc (.cells #[.slice (some ⟨w.heap.size + 1, 0, none⟩) n n, .bool false] 108)).heap[w.heap.size + 1]? = some (.cells (icells (zeros n)).toArray 3 (0, 0)) := by
    refine (heap_alloc_lt _ _ _ (by simp)).trans ?_
    have := heap_alloc_new (w.alloc (.cells #[.slice (some ⟨w.heap.size + 2, 0, none⟩) 1 1] 59)) (.cells (icells (zeros n)).toArray 3)
    simpa using this
  refine ⟨?_, rfl, fun i x b h1 h2 => ?_⟩
  · have := SliceAt.made (sz := 2) hA (n := 1) rfl (by unfold maxLen; omega)
    exact this
  · cases i with
    | zero =>
      simp [newS] at h1 h2
      subst h1; subst h2
      refine ⟨rfl, rfl, zeros n, by simp [zeros, hole], ?_, fun e => by simp [hole] at e⟩
      have := SliceAt.made (sz := 1) hW (n := n) (by simp [zeros]) (by unfold maxLen; omega)
      simpa [RN.val] using this
    | succ i => simp at h1

set_option maxRecDepth 100000 in
set_option maxHeartbeats 8000000 in
theorem does_good (w0 : World) (n : Nat) (h0 : 4 ≤ n) (h1 : n ≤ 2000) (h2 : n % 2 = 0) (l : List Act4) (a : Option Addr) (cap : Nat) (hl : l.length ≤ 60) (hin : AIn w0 a l) (hwf : ∀ p ∈ l, p.wf) :
    Calls Try.prog 10 #[.int .i64 n, .slice a l.length cap] w0 fun e w' => e = .returned (.bool true) ∧ Old w0 w' := by
  have q1 : decide ((2000 : Int) < (n : Int)) = false := decide_eq_false (by omega)
  have q1' : decide (2000 < n) = false := decide_eq_false (by omega)
  have q2 : decide ((60 : Int) < (l.length : Int)) = false := decide_eq_false (by omega)
  have q3 : decide (60 < l.length) = false := decide_eq_false (by omega)
  have HN := Lib.hid (new_good n h0 (by omega) h2 w0)
  have HI := Lib.hid (And.intro hin hwf)
  have HRN := Lib.hid (fun w => rnew_good n h0 (by omega) h2 w)
  have HB := Lib.hid (And.intro h0 (And.intro h1 h2))
  clear hin hwf h0 h1 h2
  go_enter Try.func10, Try.ntmps10
  go_wp2_with fail
  refine HN.out.mono ?_
  rintro e1 w1 ⟨g1, rfl, hgn, r1, hB1, htag, hk1⟩
  have hsi := si_start (w0 := w0) r1 hgn hB1 htag
  obtain ⟨s, hs⟩ : ∃ s, g1.s = s := ⟨_, rfl⟩
  rw [hs]
  have HS := Lib.hid (And.intro hsi hs)
  clear hgn r1 hB1 htag hk1 hsi hs
  go_wp2_with fail
  refine (HRN.out w1).mono ?_
  rintro e2 w2 ⟨rfl, hw2⟩
  have hrc := ref_start w1 n HB.out.1 (by have := HB.out.2.1; omega)
  rw [← hw2] at hrc
  have hB2 : Below w1.heap.size w1 w2 := by rw [hw2]; exact (((Below.refl _ w1).alloc (Nat.le_refl _) _).alloc (by simp) _).alloc (by simp; omega) _
  obtain ⟨va, hva⟩ : ∃ va : Value, .slice (some ⟨w1.heap.size + 2, 0, none⟩) 1 1 = va := ⟨_, rfl⟩
  have hfr := HS.out.1.repo.rep.fresh
  have hD2 : DI w0 n NoK g1 (newS n) (.slice (some ⟨w1.heap.size + 2, 0, none⟩) 1 1) [⟨some ⟨w1.heap.size + 1, 0, none⟩, n, n, false⟩] (newS n) w2 :=
    { si := HS.out.1.below hB2, rc := hrc, tv := fun k hk => by rw [hfr k (by simp [Value.ownBlock] at hk; omega)], tl := fun x hx k hk => by simp at hx; subst hx; rw [hfr k (by simp [RN.val, Value.ownBlock] at hk; omega)], kp := fun _ _ e => e.elim }
  have hz2 : w1.heap.size ≤ w2.heap.size := hB2.size
  have HD2 := Lib.hid (And.intro hD2 hz2)
  clear hw2 hrc hB2 hfr hD2 hz2 hva
  go_upto_region 5 with fail
  obtain ⟨tb, htb⟩ : ∃ tb, w2.heap.size = tb := ⟨_, rfl⟩
  obtain ⟨w3, hw3⟩ : ∃ w3, w2.alloc (.cells #[.slice (some ⟨w1.heap.size + 2, 0, none⟩) 1 1] 59) = w3 := ⟨_, rfl⟩
  have start : DoI w0 n tb (.pointer (some ⟨s, 0, none⟩)) w3 := by
    have h3 : Below w2.heap.size w2 w3 := by rw [← hw3]; exact (Below.refl _ w2).alloc (Nat.le_refl _) _
    refine ⟨g1, _, _, _, by rw [HS.out.2], HD2.out.1.below h3, by rw [← hw3, ← htb]; exact heap_alloc_new w2 _, by rw [HD2.out.1.si.repo.rep.fresh tb (by omega)], ?_⟩
    have := HD2.out.1.si.old.size
    omega
  rw [hw3, htb]
  have HST := Lib.hid start
  clear start hw3 htb va
  go_wp2_with fail
  go_loopg [5, 9] (l.length) (fun k sv i wx => k ≤ l.length ∧ i = .int .i64 ((l.length - k : Nat) : Int) ∧ DoI w0 n tb sv wx)
  case atStart => exact ⟨Nat.le_refl _, by simp, HST.out⟩
  case round =>
    obtain ⟨hk, rfl, hDo⟩ := hrel
    obtain ⟨j, hj⟩ : ∃ j, l.length - gk = j := ⟨_, rfl⟩
    rw [hj]
    obtain ⟨g, S, v, L, rfl, hDI, hbox, htg, htz⟩ := hDo
    by_cases hlt : j < l.length
    · obtain ⟨p, hp⟩ : ∃ p, l[j]? = some p := ⟨_, List.getElem?_eq_getElem hlt⟩
      obtain ⟨b, off, rfl, hc⟩ := (HI.out.1.old hDI.si.old).resolve_left (by intro e; rw [e] at hlt; simp at hlt)
      obtain ⟨c0, c1, c2, c3⟩ := hc j p hp
      obtain ⟨va, vn, vc, rfl, -⟩ := SliceAt.form hDI.rc.ref
      have t0 : wr.cell? ⟨tb, 0, none⟩ = some (.slice va vn vc) := cell_at hbox rfl
      obtain ⟨s1, hs1⟩ : ∃ s, g.s = s := ⟨_, rfl⟩
      rw [hs1]
      have hwp : (Lit.int .i64 p.c).wf = true := (HI.out.2 p (List.mem_of_getElem? hp)).2.2.2
      have HH := Lib.hid (And.intro hDI (And.intro hbox (And.intro htg (And.intro htz (And.intro hs1 (And.intro hwp hj))))))
      clear hDI hbox htg htz hs1 hwp hj hc hp
      go_upto_region 11 with fail
      have HD11 := Lib.hid (show ∀ w5, w5 = wr.drew → Calls Try.prog 33 #[.pointer (some ⟨s1, 0, none⟩), .agg #[.slice va vn vc], .agg #[.int .i64 p.d, .int .i64 p.a, .int .i64 p.b, .int .i64 p.c]] w5 (DonePost w0 n (TK tb (.slice va vn vc))) from fun w5 e => by
        subst e
        exact done_calls ((HH.out.1.below (Below.refl _ wr).drew).box HH.out.2.1 HH.out.2.2.1) HH.out.2.2.2.2.1 p HH.out.2.2.2.2.2.1)
      refine wp_region_planHL (aR := ?aRa) (aX := ?aXa) [6, 7, 8, 9, 11, 12] [[], [6], [6, 7], [6, 7, 8], [6, 7, 9], [6, 7, 8, 9], [6, 7, 8, 11], [6, 7, 8, 9, 11], [6, 7, 8, 9, 11, 12]] 8 [(0, 0, 0), (1, 0, 0), (2, 0, 0), (3, 0, 0), (4, 0, 0), (5, 0, 0), (6, 0, 1), (7, 1, 2), (8, 2, 3), (8, 4, 5), (9, 2, 4), (9, 3, 5), (9, 6, 7), (10, 2, 2), (10, 3, 3), (10, 4, 4), (10, 5, 5), (10, 6, 6), (10, 7, 7), (10, 8, 8), (11, 3, 6), (11, 5, 7), (12, 7, 8), (13, 8, 8)] [11]
        [.pointer (some ⟨s1, 0, none⟩), .agg #[.slice va vn vc], .slice (some ⟨b, off, none⟩) l.length cap, .int .i64 j, .pointer (some ⟨b, off + j * 4, none⟩), .agg #[.int .i64 p.d, .int .i64 p.a, .int .i64 p.b, .int .i64 p.c], undef, undef, undef, undef, .bool true, undef, undef, .bool true]
        (D11 wr.drew w0 n tb (.slice va vn vc)) (by kernel_rfl) (by kernel_rfl) rfl ?hXa ?hXRa (fun _ => undef) ?h0a ?hoba ?henda
      case hXa => intro ξ; simp only [mixAll, Act.put]; go_simp; rfl
      case hXRa => intro ξ; simp only [mixAllL, Act.put]; go_simp; rfl
      case h0a => exact ⟨fun _ => rfl, fun q => absurd q (by decide)⟩
      case hoba =>
        refine oblsHL_cons rfl (stepHL_value rfl rfl (fun _ _ _ => rfl)) ?_
        refine oblsHL_cons rfl (stepHL_value rfl rfl ?_) ?_
        · rintro ξ w5 h5
          have hw := h5.z rfl
          subst hw
          clear h5
          go_simp
          rfl
        refine oblsHL_cons rfl (stepHL_value rfl rfl (fun _ _ _ => rfl)) ?_
        refine oblsHL_cons rfl (stepHL_value rfl rfl (fun _ _ _ => rfl)) ?_
        refine oblsHL_cons rfl (stepHL_value rfl rfl ?_) ?_
        · rintro ξ w5 h5
          clear h5
          go_simp
          rfl
        refine oblsHL_cons rfl (stepHL_value rfl rfl ?_) ?_
        · rintro ξ w5 h5
          have hw := h5.z rfl
          subst hw
          clear h5
          go_simp
          rfl
        refine oblsHL_cons rfl (stepHL_call rfl rfl ?_) ?_
        · rintro ξ w5 h5
          refine ⟨33, #[.pointer (some ⟨s1, 0, none⟩), .agg #[.slice va vn vc], .agg #[.int .i64 p.d, .int .i64 p.a, .int .i64 p.b, .int .i64 p.c]], by clear h5; go_simp, ?_⟩
          refine (HD11.out w5 (h5.z rfl)).mono ?_
          rintro e6 w6 ⟨g6, S6, v6, L6, rfl, D6⟩
          exact ⟨_, rfl, { z := fun q => absurd q (by decide), e := fun _ => ⟨g6, S6, v6, L6, rfl, fun q => absurd q (by decide), fun q => absurd q (by decide), fun q => absurd q (by decide), fun q => absurd q (by decide), fun _ => D6, fun q => absurd q (by decide)⟩ }⟩
        refine oblsHL_cons rfl (stepHL_make rfl rfl ?_) ?_
        · rintro ξ w5 h5
          obtain ⟨g5, S5, v5, L5, a6, a7, a8, a9, a11, aD, a12⟩ := h5.e (by decide)
          have x := a6
          refine ⟨.tuple #[.pointer (some ⟨g5.s, 0, none⟩), .agg #[v5], .bool true], w5, ?_, { z := fun q => absurd q (by decide), e := fun _ => ⟨g5, S5, v5, L5, a6, (fun q => by first | rfl | exact a7 (by decide) | exact absurd q (by decide)), (fun q => by first | rfl | exact a8 (by decide) | exact absurd q (by decide)), (fun q => by first | rfl | exact a9 (by decide) | exact absurd q (by decide)), (fun q => by first | rfl | exact a11 (by decide) | exact absurd q (by decide)), (fun q => by first | exact aD (by decide) | exact absurd q (by decide)), (fun q => absurd q (by decide))⟩ }⟩
          clear h5 a6 a7 a8 a9 a11 aD a12
          go_simp
          try rfl
        refine oblsHL_cons rfl (stepHL_make rfl rfl ?_) ?_
        · rintro ξ w5 h5
          obtain ⟨g5, S5, v5, L5, a6, a7, a8, a9, a11, aD, a12⟩ := h5.e (by decide)
          have x := a7 (by decide)
          refine ⟨.pointer (some ⟨g5.s, 0, none⟩), w5, ?_, { z := fun q => absurd q (by decide), e := fun _ => ⟨g5, S5, v5, L5, a6, (fun q => by first | rfl | exact a7 (by decide) | exact absurd q (by decide)), (fun q => by first | rfl | exact a8 (by decide) | exact absurd q (by decide)), (fun q => by first | rfl | exact a9 (by decide) | exact absurd q (by decide)), (fun q => by first | rfl | exact a11 (by decide) | exact absurd q (by decide)), (fun q => by first | exact aD (by decide) | exact absurd q (by decide)), (fun q => absurd q (by decide))⟩ }⟩
          clear h5 a6 a7 a8 a9 a11 aD a12
          go_simp
          try rfl
        refine oblsHL_cons rfl (stepHL_make rfl rfl ?_) ?_
        · rintro ξ w5 h5
          obtain ⟨g5, S5, v5, L5, a6, a7, a8, a9, a11, aD, a12⟩ := h5.e (by decide)
          have x := a7 (by decide)
          refine ⟨.pointer (some ⟨g5.s, 0, none⟩), w5, ?_, { z := fun q => absurd q (by decide), e := fun _ => ⟨g5, S5, v5, L5, a6, (fun q => by first | rfl | exact a7 (by decide) | exact absurd q (by decide)), (fun q => by first | rfl | exact a8 (by decide) | exact absurd q (by decide)), (fun q => by first | rfl | exact a9 (by decide) | exact absurd q (by decide)), (fun q => by first | rfl | exact a11 (by decide) | exact absurd q (by decide)), (fun q => by first | exact aD (by decide) | exact absurd q (by decide)), (fun q => absurd q (by decide))⟩ }⟩
          clear h5 a6 a7 a8 a9 a11 aD a12
          go_simp
          try rfl
        refine oblsHL_cons rfl (stepHL_make rfl rfl ?_) ?_
        · rintro ξ w5 h5
          obtain ⟨g5, S5, v5, L5, a6, a7, a8, a9, a11, aD, a12⟩ := h5.e (by decide)
          have x := a7 (by decide)
          refine ⟨.agg #[v5], w5, ?_, { z := fun q => absurd q (by decide), e := fun _ => ⟨g5, S5, v5, L5, a6, (fun q => by first | rfl | exact a7 (by decide) | exact absurd q (by decide)), (fun q => by first | rfl | exact a8 (by decide) | exact absurd q (by decide)), (fun q => by first | rfl | exact a9 (by decide) | exact absurd q (by decide)), (fun q => by first | rfl | exact a11 (by decide) | exact absurd q (by decide)), (fun q => by first | exact aD (by decide) | exact absurd q (by decide)), (fun q => absurd q (by decide))⟩ }⟩
          clear h5 a6 a7 a8 a9 a11 aD a12
          go_simp
          try rfl
        refine oblsHL_cons rfl (stepHL_make rfl rfl ?_) ?_
        · rintro ξ w5 h5
          obtain ⟨g5, S5, v5, L5, a6, a7, a8, a9, a11, aD, a12⟩ := h5.e (by decide)
          have x := a7 (by decide)
          refine ⟨.agg #[v5], w5, ?_, { z := fun q => absurd q (by decide), e := fun _ => ⟨g5, S5, v5, L5, a6, (fun q => by first | rfl | exact a7 (by decide) | exact absurd q (by decide)), (fun q => by first | rfl | exact a8 (by decide) | exact absurd q (by decide)), (fun q => by first | rfl | exact a9 (by decide) | exact absurd q (by decide)), (fun q => by first | rfl | exact a11 (by decide) | exact absurd q (by decide)), (fun q => by first | exact aD (by decide) | exact absurd q (by decide)), (fun q => absurd q (by decide))⟩ }⟩
          clear h5 a6 a7 a8 a9 a11 aD a12
          go_simp
          try rfl
        refine oblsHL_cons rfl (stepHL_make rfl rfl ?_) ?_
        · rintro ξ w5 h5
          obtain ⟨g5, S5, v5, L5, a6, a7, a8, a9, a11, aD, a12⟩ := h5.e (by decide)
          have x := a7 (by decide)
          refine ⟨.agg #[v5], w5, ?_, { z := fun q => absurd q (by decide), e := fun _ => ⟨g5, S5, v5, L5, a6, (fun q => by first | rfl | exact a7 (by decide) | exact absurd q (by decide)), (fun q => by first | rfl | exact a8 (by decide) | exact absurd q (by decide)), (fun q => by first | rfl | exact a9 (by decide) | exact absurd q (by decide)), (fun q => by first | rfl | exact a11 (by decide) | exact absurd q (by decide)), (fun q => by first | exact aD (by decide) | exact absurd q (by decide)), (fun q => absurd q (by decide))⟩ }⟩
          clear h5 a6 a7 a8 a9 a11 aD a12
          go_simp
          try rfl
        refine oblsHL_cons rfl (stepHL_value rfl rfl ?_) ?_
        · rintro ξ w5 h5
          obtain ⟨g5, S5, v5, L5, a6, a7, a8, a9, a11, aD, a12⟩ := h5.e (by decide)
          have x := a7 (by decide)
          clear h5 a6 a7 a8 a9 a11 aD a12
          go_simp
          rfl
        refine oblsHL_cons rfl (stepHL_value rfl rfl ?_) ?_
        · rintro ξ w5 h5
          obtain ⟨g5, S5, v5, L5, a6, a7, a8, a9, a11, aD, a12⟩ := h5.e (by decide)
          have x := a7 (by decide)
          clear h5 a6 a7 a8 a9 a11 aD a12
          go_simp
          rfl
        refine oblsHL_cons rfl (stepHL_value rfl rfl ?_) ?_
        · rintro ξ w5 h5
          obtain ⟨g5, S5, v5, L5, a6, a7, a8, a9, a11, aD, a12⟩ := h5.e (by decide)
          have x := a7 (by decide)
          clear h5 a6 a7 a8 a9 a11 aD a12
          go_simp
          rfl
        refine oblsHL_cons rfl (stepHL_value rfl rfl ?_) ?_
        · rintro ξ w5 h5
          obtain ⟨g5, S5, v5, L5, a6, a7, a8, a9, a11, aD, a12⟩ := h5.e (by decide)
          have x := a7 (by decide)
          clear h5 a6 a7 a8 a9 a11 aD a12
          go_simp
          rfl
        refine oblsHL_cons rfl (stepHL_value rfl rfl ?_) ?_
        · rintro ξ w5 h5
          obtain ⟨g5, S5, v5, L5, a6, a7, a8, a9, a11, aD, a12⟩ := h5.e (by decide)
          have x := a7 (by decide)
          clear h5 a6 a7 a8 a9 a11 aD a12
          go_simp
          rfl
        refine oblsHL_cons rfl (stepHL_value rfl rfl ?_) ?_
        · rintro ξ w5 h5
          obtain ⟨g5, S5, v5, L5, a6, a7, a8, a9, a11, aD, a12⟩ := h5.e (by decide)
          have x := a7 (by decide)
          clear h5 a6 a7 a8 a9 a11 aD a12
          go_simp
          rfl
        refine oblsHL_cons rfl (stepHL_value rfl rfl ?_) ?_
        · rintro ξ w5 h5
          obtain ⟨g5, S5, v5, L5, a6, a7, a8, a9, a11, aD, a12⟩ := h5.e (by decide)
          have x := a7 (by decide)
          clear h5 a6 a7 a8 a9 a11 aD a12
          go_simp
          rfl
        refine oblsHL_cons rfl (stepHL_make rfl rfl ?_) ?_
        · rintro ξ w5 h5
          obtain ⟨g5, S5, v5, L5, a6, a7, a8, a9, a11, aD, a12⟩ := h5.e (by decide)
          have x := a8 (by decide)
          refine ⟨.pointer (some ⟨g5.s, 0, none⟩), w5, ?_, { z := fun q => absurd q (by decide), e := fun _ => ⟨g5, S5, v5, L5, a6, (fun q => by first | rfl | exact a7 (by decide) | exact absurd q (by decide)), (fun q => by first | rfl | exact a8 (by decide) | exact absurd q (by decide)), (fun q => by first | rfl | exact a9 (by decide) | exact absurd q (by decide)), (fun q => by first | rfl | exact a11 (by decide) | exact absurd q (by decide)), (fun q => by first | exact aD (by decide) | exact absurd q (by decide)), (fun q => absurd q (by decide))⟩ }⟩
          clear h5 a6 a7 a8 a9 a11 aD a12
          go_simp
          try rfl
        refine oblsHL_cons rfl (stepHL_make rfl rfl ?_) ?_
        · rintro ξ w5 h5
          obtain ⟨g5, S5, v5, L5, a6, a7, a8, a9, a11, aD, a12⟩ := h5.e (by decide)
          have x := a8 (by decide)
          refine ⟨.pointer (some ⟨g5.s, 0, none⟩), w5, ?_, { z := fun q => absurd q (by decide), e := fun _ => ⟨g5, S5, v5, L5, a6, (fun q => by first | rfl | exact a7 (by decide) | exact absurd q (by decide)), (fun q => by first | rfl | exact a8 (by decide) | exact absurd q (by decide)), (fun q => by first | rfl | exact a9 (by decide) | exact absurd q (by decide)), (fun q => by first | rfl | exact a11 (by decide) | exact absurd q (by decide)), (fun q => by first | exact aD (by decide) | exact absurd q (by decide)), (fun q => absurd q (by decide))⟩ }⟩
          clear h5 a6 a7 a8 a9 a11 aD a12
          go_simp
          try rfl
        refine oblsHL_cons rfl (stepHL_store rfl rfl rfl ?_) ?_
        · rintro ξ w5 h5
          obtain ⟨g5, S5, v5, L5, a6, a7, a8, a9, a11, aD, a12⟩ := h5.e (by decide)
          have D5 := aD (by decide)
          obtain ⟨ua, un, uc, rfl, -⟩ := SliceAt.form D5.rc.ref
          have hb := (D5.kp tb _ ⟨rfl, rfl⟩).1
          have hg := (D5.kp tb _ ⟨rfl, rfl⟩).2
          have r0 : w5.cell? ⟨tb, 0, none⟩ = some (.slice va vn vc) := cell_at hb rfl
          have r1 : w5.frozen? ⟨tb, 0, none⟩ = false := frozen_at hb
          have x9 := a9 (by decide)
          refine ⟨w5.setCell ⟨tb, 0, none⟩ (.slice ua un uc), ?_, ?_⟩
          · clear h5 a6 a7 a8 a9 a11 aD a12 D5 hb hg
            go_simp
          · have t5 : Turn (fun k => k = tb) w5 (w5.setCell ⟨tb, 0, none⟩ (.slice ua un uc)) := (Turn.refl (fun k => k = tb) w5).setCell (p := ⟨tb, 0, none⟩) (fun _ => rfl) _
            have D6 := D5.bare.poke hb hg ⟨HH.out.2.2.2.1, fun _ e => e.elim⟩ t5 (KeepsOthers.setCell _ _ _)
            have hb6 : (w5.setCell ⟨tb, 0, none⟩ (.slice ua un uc)).heap[tb]? = some (.cells #[.slice ua un uc] 59 (0, 0)) := by rw [heap_setCell_self _ hb]; rfl
            exact { z := fun q => absurd q (by decide), e := fun _ => ⟨g5, S5, _, L5, a6, fun _ => a7 (by decide), fun _ => a8 (by decide), fun _ => a9 (by decide), fun _ => a11 (by decide), fun q => absurd q (by decide), fun _ => ⟨D6, hb6, hg⟩⟩ }
        refine oblsHL_cons rfl (stepHL_value rfl rfl (fun _ _ _ => rfl)) ?_
        exact oblsHL_nil
      case henda =>
        rintro ξ w5 h5
        obtain ⟨g5, S5, v5, L5, a6, a7, a8, a9, a11, aD, a12⟩ := h5.e (by decide)
        obtain ⟨D5, hb5, hg5⟩ := a12 rfl
        have x11 := a11 (by decide)
        have htz := HH.out.2.2.2.1
        clear a6 a7 a8 a9 a11 aD a12 h5 t0 c0 c1 c2 c3
        rw [x11]
        obtain ⟨s5, hs5⟩ : ∃ s, g5.s = s := ⟨_, rfl⟩
        rw [hs5]
        have H5 := Lib.hid (And.intro D5 (And.intro hb5 (And.intro hg5 (And.intro htz hs5))))
        have HF := Lib.hid (freewords_calls D5.si.repo hs5)
        obtain ⟨ua, un, uc, rfl, -⟩ := SliceAt.form D5.rc.ref
        clear D5 hb5 hg5 htz hs5 x11
        go_wp2_with fail
        refine HF.out.mono ?_
        rintro e6 w6 ⟨rfl, b6⟩
        have HG := Lib.hid (rfree_calls (H5.out.1.rc.below b6) H5.out.1.si.repo.ok)
        have t6 : w6.cell? ⟨tb, 0, none⟩ = some (.slice ua un uc) := (b6.cell (p := ⟨tb, 0, none⟩) (heap_lt H5.out.2.1)).trans (cell_at H5.out.2.1 rfl)
        obtain ⟨F9, hF9⟩ : ∃ F : Int, ((freeWords S5 : Nat) : Int) = F := ⟨_, rfl⟩
        obtain ⟨G9, hG9⟩ : ∃ F : Int, ((largest S5 : Nat) : Int) = F := ⟨_, rfl⟩
        rw [hF9, hG9]
        have HFG := Lib.hid (And.intro hF9 (And.intro hG9 b6))
        clear hF9 hG9 b6
        go_wp2_with fail
        refine HG.out.mono ?_
        rintro e7 w7 ⟨rfl, b7⟩
        rw [HFG.out.1, HFG.out.2.1]
        have t7 : w7.cell? ⟨tb, 0, none⟩ = some (.slice ua un uc) := (b7.cell (p := ⟨tb, 0, none⟩) (cell_lt t6)).trans t6
        have B57 : Below w5.heap.size w5 w7 := HFG.out.2.2.trans (b7.mono HFG.out.2.2.size)
        have D7 := H5.out.1.below B57
        have hlen := D7.si.repo.ok.slen
        have hrz : rsz L5 ≤ 32000 := by rw [D7.rc.rszall]; exact hlen.2.1
        have hrl : L5.length ≤ 16000 := by rw [D7.rc.len]; exact hlen.1
        have hbl : (blocks 0 S5).length ≤ 1000000 := by rw [blocks_length]; omega
        have hreq := rblocks_eq L5 S5 0 (RC.map (v := (Value.slice ua un uc)) D7.rc.len D7.rc.blk)
        have H7 := Lib.hid (And.intro D7 (And.intro B57 (And.intro hrz (And.intro hrl (And.intro hbl hreq)))))
        clear b7 t6 D7 B57 hlen hrz hrl hbl hreq
        go_upto_region 14 with fail
        refine wp_region_planH (aX := ?aXb) [4, 6, 7] [[], [4], [4, 6], [4, 6, 7]] 3 [(0, 0, 0), (1, 0, 0), (2, 0, 0), (3, 0, 0), (4, 0, 1), (5, 0, 0), (5, 1, 1), (6, 1, 2), (7, 2, 3), (8, 3, 3), (9, 3, 3), (10, 3, 3), (11, 3, 3), (12, 3, 3), (13, 3, 3), (14, 3, 3), (15, 3, 3), (16, 3, 3), (17, 3, 3), (18, 3, 3), (19, 3, 3)]
          [.bool true, .bool false, .bool false, .pointer (some ⟨s5, 0, none⟩), undef, .agg #[.slice ua un uc], undef, undef, .bool false, .bool false, .bool false, .int .i64 F9, .int .i64 F9, .bool false, .bool false, .bool false, .int .i64 G9, .int .i64 G9, .bool false, .bool false]
          (D14 w7 (blocks 0 S5)) (by kernel_rfl) (by kernel_rfl) rfl ?hXb (fun _ => undef) ?h0b ?hobb ?hendb
        case hXb => intro ξ; simp only [mixAll, Act.put]; go_simp; rfl
        case h0b => exact ⟨(Below.refl _ w7).drew, fun q => absurd q (by decide), fun q => absurd q (by decide), fun q => absurd q (by decide)⟩
        case hobb =>
          refine oblsH_cons rfl (stepH_value rfl rfl ?_) ?_
          · rintro ξ w8 h8
            clear h8
            go_simp
            rfl
          refine oblsH_cons rfl (stepH_value rfl rfl ?_) ?_
          · rintro ξ w8 h8
            clear h8
            go_simp
            rfl
          refine oblsH_cons rfl (stepH_value rfl rfl ?_) ?_
          · rintro ξ w8 h8
            clear h8
            go_simp
            rfl
          refine oblsH_cons rfl (stepH_value_on rfl ?_) ?_
          · rintro ξ w8 h8
            refine ⟨rfl, ?_⟩
            clear h8
            go_simp
            rfl
          refine oblsH_cons rfl (stepH_call_on rfl ?_) ?_
          · rintro ξ w8 h8
            refine ⟨rfl, 22, #[.pointer (some ⟨s5, 0, none⟩)], by clear h8; go_simp, ?_⟩
            refine (blocks_calls (H7.out.1.below h8.b).si.repo H5.out.2.2.2.2).mono ?_
            rintro e9 w9 ⟨v9, rfl, s9, b9, -⟩
            obtain ⟨a3, c3', rfl, -, -, hc3⟩ := blocks_form s9
            exact ⟨_, rfl, ⟨h8.b.trans (b9.mono h8.b.size), fun _ => ⟨a3, c3', rfl, hc3⟩, fun q => absurd q (by decide), fun q => absurd q (by decide)⟩⟩
          refine oblsH_cons rfl (stepH_value_on rfl ?_) ?_
          · rintro ξ w8 h8
            refine ⟨rfl, ?_⟩
            have c := (h8.b.cell (p := ⟨tb, 0, none⟩) (cell_lt t7)).trans t7
            clear h8
            go_simp
            rfl
          refine oblsH_cons rfl (stepH_value_on rfl ?_) ?_
          · rintro ξ w8 h8
            refine ⟨rfl, ?_⟩
            have c := (h8.b.cell (p := ⟨tb, 0, none⟩) (cell_lt t7)).trans t7
            clear h8
            go_simp
            rfl
          refine oblsH_cons rfl (stepH_call_on rfl ?_) ?_
          · rintro ξ w8 h8
            refine ⟨rfl, 30, #[.agg #[.slice ua un uc]], by clear h8; go_simp, ?_⟩
            refine (rblocks_calls (H7.out.1.below h8.b).rc.ref H7.out.2.2.1 H7.out.2.2.2.1).mono ?_
            rintro e9 w9 ⟨v9, rfl, s9, b9⟩
            rw [H7.out.2.2.2.2.2] at s9
            obtain ⟨a4, c4', rfl, -, -, hc4⟩ := blocks_form s9
            obtain ⟨a3, c3', q3, b3⟩ := h8.e4 (by decide)
            exact ⟨_, rfl, ⟨h8.b.trans (b9.mono h8.b.size), fun _ => ⟨a3, c3', q3, b3.below b9⟩, fun _ => ⟨a4, c4', rfl, hc4⟩, fun q => absurd q (by decide)⟩⟩
          refine oblsH_cons rfl (stepH_call_on rfl ?_) ?_
          · rintro ξ w8 h8
            obtain ⟨a3, c3', q3, b3⟩ := h8.e4 (by decide)
            obtain ⟨a4, c4', q4, b4⟩ := h8.e6 (by decide)
            refine ⟨rfl, 16, #[.slice a3 (blocks 0 S5).length c3', .slice a4 (blocks 0 S5).length c4'], ?_, ?_⟩
            · obtain ⟨N, hN⟩ : ∃ N, (blocks 0 S5).length = N := ⟨_, rfl⟩
              rw [hN] at q3 q4 ⊢
              clear h8 b3 b4 hN
              go_simp
            · refine (eqblocks_calls c3' c4' b3 b4 H7.out.2.2.2.2.1 H7.out.2.2.2.2.1).mono ?_
              rintro e9 w9 ⟨rfl, b9⟩
              rw [decide_eq_true rfl]
              exact ⟨_, rfl, ⟨h8.b.trans (b9.mono h8.b.size), fun _ => ⟨a3, c3', q3, b3.below b9⟩, fun _ => ⟨a4, c4', q4, b4.below b9⟩, fun _ => rfl⟩⟩
          refine oblsH_cons rfl (stepH_value_on rfl ?_) ?_
          · rintro ξ w8 h8
            refine ⟨rfl, ?_⟩
            have q7 := h8.e7 (by decide)
            clear h8
            go_simp
            rfl
          refine oblsH_cons rfl (stepH_value rfl rfl ?_) ?_
          · rintro ξ w8 h8
            clear h8
            go_simp
            rfl
          refine oblsH_cons rfl (stepH_value rfl rfl ?_) ?_
          · rintro ξ w8 h8
            clear h8
            go_simp
            rfl
          refine oblsH_cons rfl (stepH_value_on rfl ?_) ?_
          · rintro ξ w8 h8
            refine ⟨rfl, ?_⟩
            clear h8
            go_simp
            rfl
          refine oblsH_cons rfl (stepH_value_on rfl ?_) ?_
          · rintro ξ w8 h8
            refine ⟨rfl, ?_⟩
            clear h8
            go_simp
            rfl
          refine oblsH_cons rfl (stepH_value_on rfl ?_) ?_
          · rintro ξ w8 h8
            refine ⟨rfl, ?_⟩
            clear h8
            go_simp
            rfl
          refine oblsH_cons rfl (stepH_value rfl rfl ?_) ?_
          · rintro ξ w8 h8
            clear h8
            go_simp
            rfl
          refine oblsH_cons rfl (stepH_value rfl rfl ?_) ?_
          · rintro ξ w8 h8
            clear h8
            go_simp
            rfl
          refine oblsH_cons rfl (stepH_value_on rfl ?_) ?_
          · rintro ξ w8 h8
            refine ⟨rfl, ?_⟩
            clear h8
            go_simp
            rfl
          refine oblsH_cons rfl (stepH_value_on rfl ?_) ?_
          · rintro ξ w8 h8
            refine ⟨rfl, ?_⟩
            clear h8
            go_simp
            rfl
          refine oblsH_cons rfl (stepH_value_on rfl ?_) ?_
          · rintro ξ w8 h8
            refine ⟨rfl, ?_⟩
            clear h8
            go_simp
            rfl
          refine oblsH_cons rfl (stepH_value rfl rfl ?_) ?_
          · rintro ξ w8 h8
            clear h8
            go_simp
            rfl
          exact oblsH_nil
        case hendb =>
          rintro ξ w8 h8
          have HE := Lib.hid (H7.out.2.1.trans (h8.b.mono H7.out.2.1.size))
          clear h8 t7
          go_wp2_with fail
          go_roundg (gk - 1)
          case measure => have := HH.out.2.2.2.2.2.2; omega
          case rel =>
            have hj := HH.out.2.2.2.2.2.2
            have e3 : l.length - (gk - 1) = j + 1 := by omega
            rw [e3]
            exact ⟨by omega, by go_num, DoI.below ⟨g5, S5, _, L5, by rw [H5.out.2.2.2.2], H5.out.1, H5.out.2.1, H5.out.2.2.1, H5.out.2.2.2.1⟩ HE.out⟩
    · obtain rfl : j = l.length := by omega
      have HO := Lib.hid hDI.si.old
      clear hDI hbox htg htz hj
      go_wp2_with fail
      refine (awake_calls wr).mono ?_
      rintro e6 w6 ⟨rfl, o6⟩
      go_wp2
      go_ret
      exact ⟨rfl, HO.out.then_ o6⟩
end Go.Sto
