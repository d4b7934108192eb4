/-
  Get, walked: the first free block that is large enough.
-/
import Derived.BigRegion
import Derived.Test.YtahfoejffibahaaQStoUsed
import Derived.Test.YtahfoejffibahaaQOwnRegionGIn
set_option linter.unusedVariables false

namespace Go.Sto
open Go.Own Go.RowKit Go.Proofs Go.Shelf
attribute [local go_sem] Oper.semAt_some

theorem cell_lt {w : World} {p : Addr} {v : Value} (h : w.cell? p = some v) : p.block < w.heap.size := by
  obtain ⟨o, ho, -⟩ := cells_of_cell h
  exact heap_lt ho

def GetPost (g : Ghost) (m : Nat) (w : World) (e : Ending) (w' : World) : Prop :=
  ((∀ A x B, g.L = A ++ x :: B → fits m (sz (bs A)) x.b = false) ∧ e = .returned (.tuple #[.int .i64 0, .int .i64 2]) ∧ Below w.heap.size w w') ∨
  ∃ A x B, g.L = A ++ x :: B ∧ fits m (sz (bs A)) x.b = true ∧ (∀ A' y B', A = A' ++ y :: B' → fits m (sz (bs A')) y.b = false) ∧ e = .returned (.tuple #[.int .i64 ((sz (bs A) : Int) + 1), .int .i64 0]) ∧
    ∃ g' R v, bs R = rest x.b.size m ∧ g'.L = A ++ ⟨x.p, v, ⟨m, true, zeros (m - 1)⟩⟩ :: (R ++ B) ∧ Rep g' (bs g'.L) w' ∧ Step g g' w w'

theorem need_calls' (k : Int) (h0 : 0 ≤ k) (h1 : k ≤ 32000) {m : Nat} (hm : need k = m) (w : World) :
    Calls Try.prog 45 #[.int .i64 k] w fun e w' => e = .returned (.int .i64 m) ∧ w' = w := hm ▸ need_calls k h0 h1 w

theorem elemInt : Elem Try.prog 3 1 8 (.int .i64 0) := Elem.mk' (by kernel_rfl) rfl (by decide)

theorem make_ints (c : Int) (n : Nat) (hc : c = n) (hn : n ≤ 100000) (w : World) :
    (Instr.makeSlice 24 (.int .i64 c) (.int .i64 c)).run Try.prog w = .ok (.slice (some ⟨w.heap.size, 0, none⟩) n n) (w.alloc (.cells (icells (zeros n)).toArray 3)) := by
  subst hc
  obtain ⟨⟨i, hi, hz, h1, h2⟩, -, -⟩ := elemInt
  rw [Go.run_make (P := Try.prog) w 24 3 i (.int .i64 0) Try.underlying24 hi hz .i64 .i64 n n (by omega) (by omega) (by rw [h2]; omega) (by omega), h1]
  have : madeCells (Value.int .i64 0).cells (n * 1) = (icells (zeros n)).toArray := by
    apply Array.ext
    · simp [size_madeCells, icells, zeros]
    · intro j h1 h2
      simp [madeCells, icells_zeros, Value.cells, Nat.mod_one]
  simp only [Int.toNat_natCast, this]

def Taken (g : Ghost) (m : Nat) (A : List Nd) (x : Nd) (B : List Nd) (w w' : World) : Prop :=
  ∃ g' R v, bs R = rest x.b.size m ∧ g'.L = A ++ ⟨x.p, v, ⟨m, true, zeros (m - 1)⟩⟩ :: (R ++ B) ∧ Rep g' (bs g'.L) w' ∧ Step g g' w w'

/-- A round has left: it has taken the block x. -/
def GetX (g : Ghost) (m : Nat) (w : World) (c : Code) (pre : List (In g.L)) (W : World) : Prop :=
  ∃ (pre' : List (In g.L)) (x : In g.L) (A B : List Nd), c = .ret ∧ pre = pre' ++ [x] ∧ g.L = A ++ x.1 :: B ∧ fits m (sz (bs A)) x.1.b = true ∧ (∀ y ∈ pre', ∀ A B, g.L = A ++ y.1 :: B → fits m (sz (bs A)) y.1.b = false) ∧
      W.cell? ⟨w.heap.size, 0, none⟩ = some (.int .i64 ((sz (bs A) : Int) + 1)) ∧ W.cell? ⟨w.heap.size + 1, 0, none⟩ = some (.int .i64 0) ∧ Taken g m A x.1 B w W

set_option maxRecDepth 100000 in
set_option maxHeartbeats 2000000 in
theorem get_calls {g : Ghost} {S : St} {w : World} (h : Rep g S w) (hsz : sz S ≤ 32000) {s : Nat} (hs : g.s = s) (k : Int) (h0 : 0 ≤ k) (hk : k ≤ 32000) {m : Nat} (hm : need k = m) :
    Calls Try.prog 18 #[.pointer (some ⟨s, 0, none⟩), .int .i64 k] w (GetPost g m w) := by
  subst hs
  have hL := h.isL
  have hm0 : 2 ≤ m ∧ m ≤ 32002 := by unfold need at hm; omega
  have HM := Lib.hid hm
  clear hm
  have q1 : decide (k < 0) = false := by simp; omega
  have q2 : decide (32000 < k) = false := by simp; omega
  have hro : Fence.wide.round = none := rfl
  refine (callsIn_wide (n := 3)).1 ?_
  refine callsIn_of_wp_marks Try.func18 rfl trivial ?_ rfl
  simp only [Try.ntmps18, List.size_toArray, List.length_cons, List.length_nil, Nat.reduceAdd, Nat.reduceSub, Array.replicate_succ, Array.replicate_zero, List.push_toArray, List.append_toArray, List.nil_append, List.cons_append]
  gi_wp2_with (first
    | (refine ⟨trivial, ?_⟩; gi_at_call 45; refine (callsIn_wide.2 (need_calls' k h0 hk HM.out _)).mono ?_; rintro e w' ⟨rfl, rfl⟩)
    | (refine ⟨trivial, ?_⟩; gi_at_call 46; refine (all_in _ _ trivial rfl _ _).mono ?_; rintro e w' ⟨rfl, rfl⟩))
  have c0 := cell_new_l w (.int .i64 0) 3
  have c1 := cell_new_l (w.alloc (.cells #[.int .i64 0] 3)) (.int .i64 0) 26
  have c2 := cell_new_l ((w.alloc (.cells #[.int .i64 0] 3)).alloc (.cells #[.int .i64 0] 26)) (.int .i64 m) 3
  have c3 := cell_new_l (((w.alloc (.cells #[.int .i64 0] 3)).alloc (.cells #[.int .i64 0] 26)).alloc (.cells #[.int .i64 m] 3)) (.pointer (some ⟨g.s, 0, none⟩)) 33
  simp only [World.size_alloc] at c1 c2 c3
  obtain ⟨w0, hw0⟩ : ∃ w0, (((w.alloc (.cells #[.int .i64 0] 3)).alloc (.cells #[.int .i64 0] 26)).alloc (.cells #[.int .i64 m] 3)).alloc (.cells #[.pointer (some ⟨g.s, 0, none⟩)] 33) = w0 := ⟨_, rfl⟩
  have hB0 : Below w.heap.size w w0 := by rw [← hw0]; exact ((((Below.refl _ w).alloc (Nat.le_refl _) _).alloc (by simp) _).alloc (by simp; omega) _).alloc (by simp; omega) _
  have hz0 : w0.heap.size = w.heap.size + 4 := by rw [← hw0]; simp
  have d0 := cell_alloc_l (.cells #[.pointer (some ⟨g.s, 0, none⟩)] 33) (cell_alloc_l (.cells #[.int .i64 m] 3) (cell_alloc_l (.cells #[.int .i64 0] 26) c0.1))
  have f0 := frozen_alloc_l (.cells #[.pointer (some ⟨g.s, 0, none⟩)] 33) (cell_alloc_l (.cells #[.int .i64 m] 3) (cell_alloc_l (.cells #[.int .i64 0] 26) c0.1)) (frozen_alloc_l (.cells #[.int .i64 m] 3) (cell_alloc_l (.cells #[.int .i64 0] 26) c0.1) (frozen_alloc_l (.cells #[.int .i64 0] 26) c0.1 c0.2))
  have d1 := cell_alloc_l (.cells #[.pointer (some ⟨g.s, 0, none⟩)] 33) (cell_alloc_l (.cells #[.int .i64 m] 3) c1.1)
  have f1 := frozen_alloc_l (.cells #[.pointer (some ⟨g.s, 0, none⟩)] 33) (cell_alloc_l (.cells #[.int .i64 m] 3) c1.1) (frozen_alloc_l (.cells #[.int .i64 m] 3) c1.1 c1.2)
  have d2 := cell_alloc_l (.cells #[.pointer (some ⟨g.s, 0, none⟩)] 33) c2.1
  have d3 := c3.1
  rw [hw0] at d0 d1 d2 d3 f0 f1 ⊢
  clear c0 c1 c2 c3 hw0
  refine wpIn_rangeFunc_ownF hro (by omega) (gf := 71) (lb := #[.pointer (some ⟨w.heap.size + 1 + 1 + 1, 0, none⟩)]) rfl trivial (enters_of Try.func71 (by kernel_rfl) rfl)
    (all_stops Fence.wide (3 - 1) trivial hro (by omega) (w.heap.size + 1 + 1 + 1) w.heap.size g.s g.L _ (by omega) (by omega) d3 (hL.below hB0)) belowK_t (belowK_b (by omega)) (Below.refl _ _) (fun _ => rfl)
    (fun pre W => ((∀ y ∈ pre, ∀ A B, g.L = A ++ y.1 :: B → fits m (sz (bs A)) y.1.b = false) ∧ W.cell? ⟨w.heap.size, 0, none⟩ = some (.int .i64 0) ∧ W.frozen? ⟨w.heap.size, 0, none⟩ = false ∧
      W.cell? ⟨w.heap.size + 1, 0, none⟩ = some (.int .i64 0) ∧ W.frozen? ⟨w.heap.size + 1, 0, none⟩ = false ∧ W.cell? ⟨w.heap.size + 1 + 1, 0, none⟩ = some (.int .i64 m)) ∧ Below w.heap.size w W)
    (GetX g m w)
    (OwnFrom.and (Own.from (fun s A B row hs hg hr => ⟨hs.1, cell_kept hs.2.1 hg hr, (frozen_kept hs.2.1 hg hr).trans hs.2.2.1, cell_kept hs.2.2.2.1 hg hr, (frozen_kept hs.2.2.2.1 hg hr).trans hs.2.2.2.2.1, cell_kept hs.2.2.2.2.2 hg hr⟩) _) (ownFrom_below (Nat.le_refl _) (by omega)))
    (fun c s W W' row hs hg hr => by
      obtain ⟨p', x, A, B, q1, q2, q3, q4, q5, q6, q7, g', R, v, t1, t2, t3, t4⟩ := hs
      exact ⟨p', x, A, B, q1, q2, q3, q4, q5, cell_kept q6 hg (fun r e => (hr r e).2), cell_kept q7 hg (fun r e => (hr r e).2), g', R, v, t1, t2, t3.grown hg (fun r e => (hr r e).2), t4.grown hg (fun r e => by have := (hr r e).1; omega)⟩)
    ⟨⟨by simp, d0, f0, d1, f1, d2⟩, hB0⟩
    (fun x => { tmps := #[.pointer (some ⟨g.s, 0, none⟩), .int .i64 k, undef, undef, .pointer (some ⟨w.heap.size, 0, none⟩), .pointer (some ⟨w.heap.size + 1, 0, none⟩), .pointer (some ⟨w.heap.size + 1 + 1, 0, none⟩), .pointer (some ⟨x.1.p, 0, none⟩), .pointer (some ⟨g.s, 0, none⟩), .bool false, .int .i64 k, .bool false, .bool false, .int .i64 k, .bool false, .bool false, .int .i64 k, .int .i64 m, .pointer (some ⟨g.s, 0, none⟩), .func (.func 71) #[] #[.pointer (some ⟨w.heap.size + 1 + 1 + 1, 0, none⟩)], .pointer (some ⟨x.1.p, 0, none⟩), undef, undef, undef, undef, undef, undef, undef, undef, undef, undef, undef, undef, undef, undef, undef, undef, undef, undef, undef, undef, undef, undef, undef, undef, undef, undef, undef, undef, undef], defers := [] }) ?assign ?body ?done ?stop
  case assign =>
    intro l x W K hK
    gi_wp2
    exact hK
  case body =>
    rintro l pre x W ⟨⟨hp, hc4, hf4, hc5, hf5, hc6⟩, hB⟩ _
    obtain ⟨A, B, hAB⟩ := x.split
    have hr := h.below hB (Nat.le_refl _)
    obtain ⟨b0, b1, b2, -⟩ := nd_cells (hr.mid hAB)
    have hsm : sz (bs A) + x.1.b.size ≤ 32000 := by rw [h.map, hAB, bs_append, sz_append] at hsz; simp [sz] at hsz; omega
    have hno : fits m (sz (bs A)) x.1.b = false → ∀ y ∈ pre ++ [x], ∀ A B, g.L = A ++ y.1 :: B → fits m (sz (bs A)) y.1.b = false := fun hf y hy A' B' e => by
      rcases List.mem_append.1 hy with hy | hy
      · exact hp y hy A' B' e
      · obtain rfl : y = x := by simpa using hy
        have hn := h.nodup
        rw [hAB] at hn
        rw [← (nd_unique hn (hAB.symm.trans e)).1]; exact hf
    have HNO := Lib.hid hno
    have HAB := Lib.hid hAB
    have HSM := Lib.hid hsm
    clear hno hAB hsm
    rcases hu : x.1.b.used with _ | _
    · rw [hu] at b2
      have HU := Lib.hid hu
      clear hu
      by_cases hlt : x.1.b.size < m
      · have hb : decide (((x.1.b.size : Nat) : Int) < m) = true := by simp; omega
        have HA := Lib.hid hlt
        clear hlt
        gi_wp2
        gi_region
        gi_wp2
        all_goals exact ⟨KeepsOthers.drew _, (Below.refl _ _).drew, ⟨HNO.out (by simp [fits, HU.out]; have := HA.out; omega), hc4, hf4, hc5, hf5, hc6⟩, hB.drew⟩
      · have hb : decide (((x.1.b.size : Nat) : Int) < m) = false := by simp; omega
        have hb2 : decide (x.1.b.size < m) = false := by simp; omega
        have HA := Lib.hid hlt
        clear hlt
        have hrd := hr.drew
        have hcs := cut_calls hrd HAB.out (by rw [h.map] at hsz; rw [h.map]; exact hsz) (p := x.1.p) rfl (m := m) (by have := HA.out; omega)
        have HCS := Lib.hid hcs
        clear hcs
        gi_wp2
        refine wpIn_region_planG (aF := ?aF0) [] [[]] 0 [(0, 0, 0), (1, 0, 0), (2, 0, 0), (3, 0, 0), (4, 0, 0), (5, 0, 0), (6, 0, 0), (7, 0, 0), (8, 0, 0), (9, 0, 0), (10, 0, 0), (11, 0, 0)] [W.drew]
          [.pointer (some ⟨x.1.p, 0, none⟩), .pointer (some ⟨x.1.p, 0, none⟩), .pointer (some ⟨x.1.p, 2, none⟩), .bool false, .bool false, .pointer (some ⟨x.1.p, 0, none⟩), .pointer (some ⟨x.1.p, 0, none⟩), .pointer (some ⟨x.1.p, 1, none⟩), .int .i64 x.1.b.size, .int .i64 m, .bool false, .bool false]
          (by kernel_rfl) (by kernel_rfl) (by kernel_rfl) ?hF0 rfl rfl rfl ?hob0 ?hend0
        case hF0 => simp only [putAll, Act.put]; go_simp; rfl
        case hob0 =>
          repeat' (first
            | exact oblsG_nil
            | (refine oblsG_cons rfl rfl rfl ?_ ?_)
            | (apply Runs.value rfl; (focus (go_simp; try exact rfl)); exact rfl)
            | (apply Runs.guarded (by rfl); (focus (go_simp; try exact rfl)); exact rfl))
        gi_wp2_with (refine ⟨trivial, ?_⟩; gi_at_call 47; refine (CallsIn.inRound l (callsIn_wide.2 HCS.out)).mono ?_; rintro e W1 ⟨rfl, g1, R, hR, e1, r1, s1⟩)
        obtain ⟨x0, x1, x2, x3, -, -, xf⟩ := nd_cells (r1.mid e1)
        have hxlt : x.1.p < W1.heap.size := r1.plt (x := ⟨x.1.p, x.1.v, ⟨m, x.1.b.used, x.1.b.ws⟩⟩) (by rw [e1]; simp)
        have keep : ∀ j, w.heap.size ≤ j → j < W.heap.size → W1.heap[j]? = W.heap[j]? := fun j h1 h2 => s1.turn.block j h2 (fun hh => hh (h.fresh j h1))
        have hw1 : IntKind.i64.wrap ((m : Int) - 1) = (m : Int) - 1 := IntWalk.i64_in _ (by omega)
        have i4 : w.heap.size < W.heap.size := cell_lt hc4
        have i5 : w.heap.size + 1 < W.heap.size := cell_lt hc5
        have i6 : w.heap.size + 1 + 1 < W.heap.size := cell_lt hc6
        have g4 : W1.cell? ⟨w.heap.size, 0, none⟩ = some (.int .i64 0) := (s1.turn.cell (p := ⟨w.heap.size, 0, none⟩) (fun hh => hh (h.fresh _ (by simp))) i4).trans hc4
        have g5 : W1.cell? ⟨w.heap.size + 1, 0, none⟩ = some (.int .i64 0) := (s1.turn.cell (p := ⟨w.heap.size + 1, 0, none⟩) (fun hh => hh (h.fresh _ (by simp))) i5).trans hc5
        have g6 : W1.cell? ⟨w.heap.size + 1 + 1, 0, none⟩ = some (.int .i64 m) := (s1.turn.cell (p := ⟨w.heap.size + 1 + 1, 0, none⟩) (fun hh => hh (h.fresh _ (by simp; omega))) i6).trans hc6
        have h4 : W1.frozen? ⟨w.heap.size, 0, none⟩ = false := (s1.turn.frozen (p := ⟨w.heap.size, 0, none⟩) (fun hh => hh (h.fresh _ (by simp))) i4).trans hf4
        have h5 : W1.frozen? ⟨w.heap.size + 1, 0, none⟩ = false := (s1.turn.frozen (p := ⟨w.heap.size + 1, 0, none⟩) (fun hh => hh (h.fresh _ (by simp))) i5).trans hf5
        have HR := Lib.hid (And.intro hR e1)
        clear hR e1
        have hmk := make_ints ((m : Int) - 1) (m - 1) (by omega) (by omega)
        have hw3 : wrap64 (((sz (bs A) : Nat) : Int) + 1) = (sz (bs A) : Int) + 1 := by have := HSM.out; unfold wrap64; omega
        have hx4 : x.1.p ≠ w.heap.size := fun e => by have := h.plt x.2; omega
        have hx5 : x.1.p ≠ w.heap.size + 1 := fun e => by have := h.plt x.2; omega
        have hx4' : w.heap.size ≠ x.1.p := fun e => hx4 e.symm
        have hx5' : w.heap.size + 1 ≠ x.1.p := fun e => hx5 e.symm
        have j4 : w.heap.size < W1.heap.size := Nat.lt_of_lt_of_le i4 s1.turn.size
        have j5 : w.heap.size + 1 < W1.heap.size := Nat.lt_of_lt_of_le i5 s1.turn.size
        have hxs : W1.heap.size < W1.heap.size + 1 := Nat.lt_succ_self _
        refine wpIn_region_planG (aF := ?aF) [4, 7, 10] [[], [4], [7], [4, 7], [4, 7, 10]] 4
          [(0, 0, 0), (0, 1, 1), (1, 0, 0), (1, 1, 1), (1, 2, 2), (1, 3, 3), (2, 0, 0), (2, 2, 2), (3, 0, 0), (3, 2, 2), (4, 0, 1), (4, 2, 3), (5, 0, 0), (5, 1, 1), (6, 0, 0), (6, 1, 1), (7, 0, 2), (7, 1, 3), (8, 3, 3), (9, 3, 3), (10, 3, 4)]
          [W1.drew, (W1.alloc (.cells (icells (zeros (m - 1))).toArray 3)).drew, (W1.setCell ⟨x.1.p, 2, none⟩ (.bool true)).drew,
            ((W1.setCell ⟨x.1.p, 2, none⟩ (.bool true)).alloc (.cells (icells (zeros (m - 1))).toArray 3)).drew,
            (((W1.setCell ⟨x.1.p, 2, none⟩ (.bool true)).setCell ⟨x.1.p, 3, none⟩ (.slice (some ⟨W1.heap.size, 0, none⟩) (m - 1) (m - 1))).alloc (.cells (icells (zeros (m - 1))).toArray 3)).drew]
          [.pointer (some ⟨x.1.p, 0, none⟩), .pointer (some ⟨x.1.p, 0, none⟩), .int .i64 m, .int .i64 ((m : Int) - 1), .slice (some ⟨W1.heap.size, 0, none⟩) (m - 1) (m - 1), .pointer (some ⟨x.1.p, 0, none⟩), .pointer (some ⟨x.1.p, 2, none⟩), undef, .pointer (some ⟨x.1.p, 0, none⟩), .pointer (some ⟨x.1.p, 3, none⟩), undef]
          (by kernel_rfl) (by kernel_rfl) (by kernel_rfl) ?hF rfl rfl rfl ?hob ?hend
        case hF => simp only [putAll, Act.put]; go_simp; rfl
        case hob =>
          repeat' (first
            | exact oblsG_nil
            | (refine oblsG_cons rfl rfl rfl ?_ ?_)
            | (apply Runs.skip rfl rfl; (focus (go_simp; try exact rfl)); exact rfl)
            | (apply Runs.value rfl; (focus (go_simp; try exact rfl)); exact rfl))
        case hend =>
          gi_wp2
          have hx1 := r1.mid HR.out.2
          have hne4 : x.1.p ≠ w.heap.size := hx4
          have step1 : Step g g1 w W1 := (Step.below (g := g) hB (Nat.le_refl _)).drew.trans s1
          have ht : ∀ k, k < W1.heap.size → (k = w.heap.size ∨ k = w.heap.size + 1) → (g1.ρ k).1 = 0 := fun k hk hh => by
            rcases hh with rfl | rfl
            · rw [s1.tags _ i4]; exact h.fresh _ (Nat.le_refl _)
            · rw [s1.tags _ i5]; exact h.fresh _ (Nat.le_succ _)
          have T1 : Turn (fun k => k = x.1.p ∨ k = w.heap.size ∨ k = w.heap.size + 1) W1 (((((W1.setCell ⟨x.1.p, 2, none⟩ (.bool true)).setCell ⟨x.1.p, 3, none⟩ (.slice (some ⟨W1.heap.size, 0, none⟩) (m - 1) (m - 1))).setCell ⟨w.heap.size, 0, none⟩ (.int .i64 ((sz (bs A) : Int) + 1))).setCell ⟨w.heap.size + 1, 0, none⟩ (.int .i64 0)).alloc (.cells (icells (zeros (m - 1))).toArray 3)).drew :=
            ((((((Turn.refl _ W1).setCell (p := ⟨x.1.p, 2, none⟩) (fun _ => .inl rfl) _).setCell (p := ⟨x.1.p, 3, none⟩) (fun _ => .inl rfl) _).setCell (p := ⟨w.heap.size, 0, none⟩) (fun _ => .inr (.inl rfl)) _).setCell (p := ⟨w.heap.size + 1, 0, none⟩) (fun _ => .inr (.inr rfl)) _).alloc _).drew
          have K1 : KeepsOthers W1 (((((W1.setCell ⟨x.1.p, 2, none⟩ (.bool true)).setCell ⟨x.1.p, 3, none⟩ (.slice (some ⟨W1.heap.size, 0, none⟩) (m - 1) (m - 1))).setCell ⟨w.heap.size, 0, none⟩ (.int .i64 ((sz (bs A) : Int) + 1))).setCell ⟨w.heap.size + 1, 0, none⟩ (.int .i64 0)).alloc (.cells (icells (zeros (m - 1))).toArray 3)).drew :=
            (((((KeepsOthers.setCell _ _ _).trans (KeepsOthers.setCell _ _ _)).trans (KeepsOthers.setCell _ _ _)).trans (KeepsOthers.setCell _ _ _)).trans (KeepsOthers.alloc _ _)).trans (KeepsOthers.drew _)
          have hnew := World.alloc_heap_new ((((W1.setCell ⟨x.1.p, 2, none⟩ (.bool true)).setCell ⟨x.1.p, 3, none⟩ (.slice (some ⟨W1.heap.size, 0, none⟩) (m - 1) (m - 1))).setCell ⟨w.heap.size, 0, none⟩ (.int .i64 ((sz (bs A) : Int) + 1))).setCell ⟨w.heap.size + 1, 0, none⟩ (.int .i64 0)) (.cells (icells (zeros (m - 1))).toArray 3)
          simp only [World.size_setCell] at hnew
          obtain ⟨g2, e2, r2, t2, s2, n2⟩ := r1.refill0 HR.out.2 ⟨m, true, zeros (m - 1)⟩ rfl (.slice (some ⟨W1.heap.size, 0, none⟩) (m - 1) (m - 1)) (T1.mono fun k hk hT => by
              rcases hT with hT | hT
              · exact .inl hT
              · exact .inr (.inr (ht k hk hT)))
            (by
              show (World.alloc _ _).heap[x.1.p]? = _
              rw [heap_alloc_lt _ _ _ (by simpa using hxlt), heap_setCell_ne _ (by exact hx5), heap_setCell_ne _ (by exact hx4), heap_setCell_self _ (heap_setCell_self _ hx1)]
              rfl)
            (by
              have := SliceAt.made (w := (((((W1.setCell ⟨x.1.p, 2, none⟩ (.bool true)).setCell ⟨x.1.p, 3, none⟩ (.slice (some ⟨W1.heap.size, 0, none⟩) (m - 1) (m - 1))).setCell ⟨w.heap.size, 0, none⟩ (.int .i64 ((sz (bs A) : Int) + 1))).setCell ⟨w.heap.size + 1, 0, none⟩ (.int .i64 0)).alloc (.cells (icells (zeros (m - 1))).toArray 3)).drew) (n := m - 1) (sz := 1) hnew (by simp [zeros]) (by unfold maxLen; omega)
              exact this)
            (fun k hk => by simp [Value.ownBlock] at hk; omega)
          have step2 : Step g g2 w _ := step1.more (T1.mono fun k hk hT => by
              rcases hT with rfl | rfl | rfl
              · left; rw [h.tp x.1 x.2]; exact Nat.one_ne_zero
              · right; exact Nat.le_refl _
              · right; exact Nat.le_succ _) (fun k hk => t2 k (Nat.lt_of_lt_of_le hk step1.turn.size)) s2 n2 K1
          refine ⟨((KeepsOthers.drew _).trans s1.ko).trans K1, pre, x, A, B, rfl, rfl, HAB.out, (by simp [fits, HU.out]; have := HA.out; omega), hp, ?_, ?_, g2, R, _, HR.out.1, e2, r2, step2⟩
          · show (World.alloc _ _).cell? _ = _
            refine cell_alloc_l _ ?_
            rw [World.cell?_setCell_other _ _ _ _ (by intro e; have := congrArg Addr.block e; simp at this)]
            exact World.cell?_setCell_same' _ _ _ (by rw [World.cell?_setCell_other _ _ _ _ (by intro e; exact hx4 (congrArg Addr.block e)), World.cell?_setCell_other _ _ _ _ (by intro e; exact hx4 (congrArg Addr.block e)), g4]; rfl)
          · show (World.alloc _ _).cell? _ = _
            refine cell_alloc_l _ ?_
            exact World.cell?_setCell_same' _ _ _ (by rw [World.cell?_setCell_other _ _ _ _ (by intro e; have := congrArg Addr.block e; simp at this), World.cell?_setCell_other _ _ _ _ (by intro e; exact hx5 (congrArg Addr.block e)), World.cell?_setCell_other _ _ _ _ (by intro e; exact hx5 (congrArg Addr.block e)), g5]; rfl)
    · rw [hu] at b2
      have HU := Lib.hid hu
      clear hu
      gi_wp2
      gi_region
      gi_wp2
      all_goals exact ⟨KeepsOthers.drew _, (Below.refl _ _).drew, ⟨HNO.out (by simp [fits, HU.out]), hc4, hf4, hc5, hf5, hc6⟩, hB.drew⟩
  case done =>
    rintro D ys W hD hys ⟨⟨hne, hc4, hf4, hc5, hf5, -⟩, hB⟩ hK
    have HY := Lib.hid hys
    clear hys
    gi_wp2
    have hK' := (KeepsOthers.setCell (W.setCell ⟨w.heap.size, 0, none⟩ (.int .i64 0)) ⟨w.heap.size + 1, 0, none⟩ (.int .i64 2)).same D _ ((KeepsOthers.setCell W ⟨w.heap.size, 0, none⟩ (.int .i64 0)).same D _ hK rfl) rfl
    refine ⟨by simp, .inl ⟨_, _, rfl, run_takeDeferred hK', ?_⟩⟩
    have kg := grownBy_putObj' ((W.setCell ⟨w.heap.size, 0, none⟩ (.int .i64 0)).setCell ⟨w.heap.size + 1, 0, none⟩ (.int .i64 2)) D (.deferred none)
    have k4 := cell_kept (a := ⟨w.heap.size, 0, none⟩) (v := .int .i64 0) ((World.cell?_setCell_other _ _ _ _ (by intro e; have := congrArg Addr.block e; simp at this)).trans (World.cell?_setCell_same' _ _ _ (by rw [hc4]; rfl))) kg (fun r e => by cases e; exact ⟨_, hK', rfl⟩)
    have k5 := cell_kept (a := ⟨w.heap.size + 1, 0, none⟩) (v := .int .i64 2) (World.cell?_setCell_same' _ _ _ (by rw [World.cell?_setCell_other _ _ _ _ (by intro e; have := congrArg Addr.block e; simp at this), hc5]; rfl)) kg (fun r e => by cases e; exact ⟨_, hK', rfl⟩)
    refine ⟨_, ?_, .inl ⟨fun A x B e => ?_, rfl, ((hB.setCell (p := ⟨w.heap.size, 0, none⟩) (Nat.le_refl _) _).setCell (p := ⟨w.heap.size + 1, 0, none⟩) (by simp) _).trans (belowK_b (w := w) (Nat.le_refl _) _ D _ _ (by omega) hK' rfl rfl)⟩⟩
    · simp [results, Try.f18, go_sem, k4, k5]
    · have hm : x ∈ vals ys := by rw [HY.out, e]; simp
      obtain ⟨y, hy, rfl⟩ := List.mem_map.1 hm
      exact hne y hy A B e
  case stop =>
    rintro D c pre W hD hpre ⟨pre', x, A, B, rfl, rfl, hAB, hat, hne, hc4, hc5, ht⟩ hK
    have HP := Lib.hid hpre
    have HAB := Lib.hid hAB
    have HAT := Lib.hid hat
    clear hpre hAB hat
    gi_wp2
    refine ⟨by simp, .inl ⟨_, _, rfl, run_takeDeferred hK, ?_⟩⟩
    have kg := grownBy_putObj' W D (.deferred none)
    have k4 := cell_kept hc4 kg (fun r e => by cases e; exact ⟨_, hK, rfl⟩)
    have k5 := cell_kept hc5 kg (fun r e => by cases e; exact ⟨_, hK, rfl⟩)
    obtain ⟨g', R, v, t1, t2, t3, t4⟩ := ht
    refine ⟨_, ?_, .inr ⟨A, x.1, B, HAB.out, HAT.out, fun A' y B' e => ?_, rfl, g', R, v, t1, t2, t3.grown kg (fun r e => by cases e; exact ⟨_, hK, rfl⟩), t4.grown kg (fun r e => by cases e; omega)⟩⟩
    · simp [results, Try.f18, go_sem, k4, k5]
    · obtain ⟨t, ht⟩ := HP.out
      rw [vals_snoc, List.append_assoc] at ht
      have hn := h.nodup
      rw [HAB.out] at hn
      have eA := (nd_unique hn (HAB.out.symm.trans ht.symm)).1
      have hm : y ∈ vals pre' := by rw [← eA, e]; simp
      obtain ⟨z, hz, rfl⟩ := List.mem_map.1 hm
      exact hne z hz A' (B' ++ x.1 :: B) (HAB.out.trans (by rw [e]; simp))
end Go.Sto
