/-
  New and Blocks, walked.
-/
import Derived.Test.YtahfoejffibahaaQStoWord
set_option linter.unusedVariables false

namespace Go.Sto
open Go.Own Go.RowKit Go.Proofs Go.Shelf
attribute [local go_sem] Oper.semAt_some

theorem KeepsOthers.of_turn {T : Nat → Prop} {w w' : World} (ht : Turn T w w') (hT : ∀ (k : Nat) (o : Obj), T k → w.heap[k]? = some o → o.isCells = true) : KeepsOthers w w' :=
  ⟨ht.size, fun k o hk ho => (ht.block k (heap_lt hk) (fun hh => by rw [hT k o hh hk] at ho; cases ho)).trans hk⟩

theorem SliceAt.isCells {w : World} {e : TypeId} {sz : Nat} {v : Value} {xs : List Value} (h : SliceAt w e sz v xs) : ∀ (k : Nat) (o : Obj), v.ownBlock = some k → w.heap[k]? = some o → o.isCells = true := by
  rcases h with ⟨rfl, _⟩ | ⟨g, off, n, cap, cur, rfl, hg, _⟩
  · intro k o hk; simp [Value.ownBlock] at hk
  · intro k o hk ho
    simp [Value.ownBlock] at hk; subst hk
    rw [hg] at ho; cases ho; rfl

/-! ### New -/

/-- The first block of a new store. -/
def newS (n : Nat) : St := [hole n]

theorem new_ok {n : Nat} (h0 : 4 ≤ n) (h1 : n ≤ 32000) (h2 : n % 2 = 0) : Ok n (newS n) :=
  ⟨h0, h1, h2, rfl, fun b hb => by simp [newS] at hb; rw [hb]; exact good_hole (by omega) h2, trivial⟩

theorem new_bad (n : Int) (hn : ¬ (4 ≤ n ∧ n ≤ 32000 ∧ n % 2 = 0)) (w : World) :
    Calls Try.prog 17 #[.int .i64 n] w fun e w' => e = .returned (.tuple #[.pointer none, .int .i64 1]) ∧ w' = w := by
  have hd : decide (4 ≤ n ∧ n ≤ 32000 ∧ n % 2 = 0) = false := decide_eq_false hn
  have hv := valid_calls n w
  rw [hd] at hv
  have HV := Lib.hid hv
  clear hv hd hn
  go_enter Try.func17, Try.ntmps17
  go_wp2_with (go_at_call 44; refine HV.out.mono ?_; rintro e w1 ⟨rfl, rfl⟩)
  go_ret2
  exact ⟨rfl, rfl⟩

theorem new_good (n : Nat) (h0 : 4 ≤ n) (h1 : n ≤ 32000) (h2 : n % 2 = 0) (w : World) :
    Calls Try.prog 17 #[.int .i64 n] w fun e w' => ∃ g, e = .returned (.tuple #[.pointer (some ⟨g.s, 0, none⟩), .int .i64 0]) ∧ g.n = n ∧ Repo g (newS n) w' ∧ Below w.heap.size w w' ∧ (∀ k, k < w.heap.size → g.ρ k = (0, 0)) ∧ KeepsOthers w w' := by
  have hd : decide (4 ≤ (n : Int) ∧ (n : Int) ≤ 32000 ∧ (n : Int) % 2 = 0) = true := decide_eq_true (by omega)
  have hv := valid_calls n w
  rw [hd] at hv
  have HV := Lib.hid hv
  have HH := Lib.hid (And.intro h0 (And.intro h1 h2))
  clear hv hd h0 h1 h2
  go_enter Try.func17, Try.ntmps17
  go_wp2_with (go_at_call 44; refine HV.out.mono ?_; rintro e w1 ⟨rfl, rfl⟩)
  go_ret2
  have hz1 : w1.heap.size ≠ w1.heap.size + 1 := by omega
  refine ⟨{ s := w1.heap.size + 1, n := n, L := [⟨w1.heap.size, .slice none 0 0, hole n⟩], ρ := fun k => if k = w1.heap.size then (1, (w1.heap.size : Int)) else if k = w1.heap.size + 1 then (3, 0) else (0, 0) }, rfl, rfl, ⟨{ map := rfl, st := ?_, ts := ?_, fresh := ?_, chain := ?_, tp := ?_, nodup := ?_, wv := ?_ }, new_ok HH.out.1 HH.out.2.1 HH.out.2.2⟩, ((Below.refl _ _).alloc (Nat.le_refl _) _).alloc (by simp) _, ?_, (KeepsOthers.alloc _ _).trans (KeepsOthers.alloc _ _)⟩
  · have := World.alloc_heap_new (w1.alloc (.cells #[.int .i64 0, .int .i64 n, .bool false, .slice none 0 0, .pointer none, .pointer none] 87)) (.cells #[.int .i64 n, .pointer (some ⟨w1.heap.size, 0, none⟩)] 89)
    rw [World.size_alloc] at this
    exact this
  · show (if w1.heap.size + 1 = w1.heap.size then _ else if w1.heap.size + 1 = w1.heap.size + 1 then ((3, 0) : Tag) else _) = _
    rw [if_neg (by omega), if_pos rfl]
  · intro k hk
    simp at hk
    show (if k = w1.heap.size then _ else if k = w1.heap.size + 1 then ((3, 0) : Tag) else _).1 = 0
    rw [if_neg (by omega), if_neg (by omega)]
  · refine ⟨?_, trivial⟩
    have := heap_alloc_lt (w1.alloc (.cells #[.int .i64 0, .int .i64 n, .bool false, .slice none 0 0, .pointer none, .pointer none] 87)) (.cells #[.int .i64 n, .pointer (some ⟨w1.heap.size, 0, none⟩)] 89) w1.heap.size (by simp)
    exact this.trans (World.alloc_heap_new w1 _)
  · intro x hx
    simp at hx; subst hx
    show (if w1.heap.size = w1.heap.size then _ else _) = _
    rw [if_pos rfl]
  · simp
  · intro x hx
    simp at hx; subst hx
    exact SliceT.nil _ _ _ _ _
  · intro k hk
    show (if k = w1.heap.size then _ else if k = w1.heap.size + 1 then ((3, 0) : Tag) else _) = _
    rw [if_neg (by omega), if_neg (by omega)]

/-! ### Blocks -/

def acells (b : Nat × Nat × Bool) : List Value := [.int .i64 b.1, .int .i64 b.2.1, .bool b.2.2]
def blkCells (l : List (Nat × Nat × Bool)) : List Value := l.flatMap acells
theorem blkCells_append (a b : List (Nat × Nat × Bool)) : blkCells (a ++ b) = blkCells a ++ blkCells b := List.flatMap_append
theorem blkCells_length (l : List (Nat × Nat × Bool)) : (blkCells l).length = l.length * 3 := by
  induction l with
  | nil => rfl
  | cons a l ih => simp only [blkCells, List.flatMap_cons, List.length_append] at ih ⊢; rw [ih]; simp [acells]; omega

/-- Where a block of the chain is. -/
def atOf (L : List Nd) (p : Nat) : Nat := sz (bs (L.takeWhile fun y => y.p != p))
theorem atOf_eq {A B : List Nd} {x : Nd} (hn : ((A ++ x :: B).map Nd.p).Nodup) : atOf (A ++ x :: B) x.p = sz (bs A) := by
  unfold atOf
  congr 2
  rw [List.takeWhile_append_of_pos (fun y hy => by simpa using (ne_of_nodup hn).1 y hy)]
  simp

def tell (L : List Nd) (x : Nd) : Nat × Nat × Bool := (atOf L x.p, x.b.size, !x.b.used)

theorem tell_at {L A B : List Nd} {x : Nd} (e : L = A ++ x :: B) (hn : (L.map Nd.p).Nodup) : tell L x = (sz (bs A), x.b.size, !x.b.used) := by
  subst e; unfold tell; rw [atOf_eq hn]

theorem tell_all {L : List Nd} (hn : (L.map Nd.p).Nodup) : L.map (tell L) = blocks 0 (bs L) := by
  have : ∀ (B A : List Nd), L = A ++ B → B.map (tell L) = blocks (sz (bs A)) (bs B) := by
    intro B
    induction B with
    | nil => intro A _; rfl
    | cons x B ih =>
      intro A e
      have h1 : tell L x = (sz (bs A), x.b.size, !x.b.used) := by
        unfold tell; rw [e, atOf_eq (e ▸ hn)]
      have h2 := ih (A ++ [x]) (by rw [e]; simp)
      rw [List.map_cons, h1, h2, bs_cons]
      simp [blocks, sz_append, sz]
  exact this L [] rfl

theorem elemBlk : Elem Try.prog 46 3 24 (.agg #[.int .i64 0, .int .i64 0, .bool false]) := Elem.mk' (by kernel_rfl) rfl (by decide)

theorem SliceAt.drew {w : World} {e : TypeId} {sz : Nat} {v : Value} {xs : List Value} (h : SliceAt w e sz v xs) : SliceAt w.drew e sz v xs := h.keep fun _ _ => rfl
theorem SliceAt.alloc {w : World} {e : TypeId} {sz : Nat} {v : Value} {xs : List Value} (h : SliceAt w e sz v xs) (o : Obj) : SliceAt (w.alloc o) e sz v xs := h.keep fun k hk => heap_alloc_lt w o k (h.lt k hk)

theorem two_le {S : St} (h : ∀ b ∈ S, Good b) : 2 * S.length ≤ sz S := by
  induction S with
  | nil => simp [sz]
  | cons b S ih =>
    have h1 := (h b (by simp)).two
    have h2 := ih fun c hc => h c (by simp [hc])
    simp [sz]; omega

def BlocksI (g : Ghost) (w : World) (pre : List (In g.L)) (W : World) : Prop :=
  (∃ v, W.cell? ⟨w.heap.size, 0, none⟩ = some v ∧ W.frozen? ⟨w.heap.size, 0, none⟩ = false ∧ SliceAt W 46 3 v (blkCells ((vals pre).map (tell g.L))) ∧ ∀ k, v.ownBlock = some k → w.heap.size < k) ∧ Below w.heap.size w W

set_option maxRecDepth 100000 in
set_option maxHeartbeats 2000000 in
theorem blocks_calls {g : Ghost} {S : St} {w : World} (h : Repo g S w) {s : Nat} (hs : g.s = s) :
    Calls Try.prog 22 #[.pointer (some ⟨s, 0, none⟩)] w fun e w' => ∃ v, e = .returned v ∧ SliceAt w' 46 3 v (blkCells (blocks 0 S)) ∧ Below w.heap.size w w' ∧ ∀ k, v.ownBlock = some k → w.heap.size ≤ k := by
  subst hs
  have hL := h.rep.isL
  have hro : Fence.wide.round = none := rfl
  refine (callsIn_wide (n := 3)).1 ?_
  refine callsIn_of_wp_marks Try.func22 rfl trivial ?_ rfl
  simp only [Try.ntmps22, List.size_toArray, List.length_cons, List.length_nil, Nat.reduceAdd, Nat.reduceSub, Array.replicate_succ, Array.replicate_zero, List.push_toArray, List.append_toArray, List.nil_append, List.cons_append]
  gi_wp2_with (first
    | (refine ⟨trivial, ?_⟩; gi_at_call 46; refine (all_in _ _ trivial rfl _ _).mono ?_; rintro e w' ⟨rfl, rfl⟩))
  have c0 := cell_new_l w (.slice none 0 0) 25
  have c1 := cell_new_l (w.alloc (.cells #[.slice none 0 0] 25)) (.pointer (some ⟨g.s, 0, none⟩)) 33
  simp only [World.size_alloc] at c1
  obtain ⟨w0, hw0⟩ : ∃ w0, (w.alloc (.cells #[.slice none 0 0] 25)).alloc (.cells #[.pointer (some ⟨g.s, 0, none⟩)] 33) = w0 := ⟨_, rfl⟩
  have hB0 : Below w.heap.size w w0 := by rw [← hw0]; exact ((Below.refl _ w).alloc (Nat.le_refl _) _).alloc (by simp) _
  have hz0 : w0.heap.size = w.heap.size + 2 := by rw [← hw0]; simp
  have d0 := cell_alloc_l (.cells #[.pointer (some ⟨g.s, 0, none⟩)] 33) c0.1
  have f0 := frozen_alloc_l (.cells #[.pointer (some ⟨g.s, 0, none⟩)] 33) c0.1 c0.2
  have d1 := c1.1
  rw [hw0] at d0 d1 f0 ⊢
  clear c0 c1 hw0
  refine wpIn_rangeFunc_ownF hro (by omega) (gf := 71) (lb := #[.pointer (some ⟨w.heap.size + 1, 0, none⟩)]) rfl trivial (enters_of Try.func71 (by kernel_rfl) rfl)
    (all_stops Fence.wide (3 - 1) trivial hro (by omega) (w.heap.size + 1) w.heap.size g.s g.L _ (by omega) (by omega) d1 (hL.below hB0)) belowK_t (belowK_b (by omega)) (Below.refl _ _) (fun _ => rfl)
    (BlocksI g w) (fun _ _ _ => False)
    (fun pre W W' row hs hg hr => by
      obtain ⟨⟨v, h1, h2, h3, h4⟩, h5⟩ := hs
      have hr' : ∀ r, row = some r → ∃ o : Obj, W.heap[r]? = some o ∧ o.isCells = false := fun r e => (hr r e).2
      refine ⟨⟨v, cell_kept h1 hg hr', (frozen_kept h1 hg hr').trans h2, SliceAt.cells_kept h3 fun k o hk ho => ?_, h4⟩, h5.grown hg h5.size (fun k e => by have := (hr k e).1; omega)⟩
      by_cases hrow : row = some k
      · obtain ⟨o', q1, q2⟩ := hr' k hrow
        rw [hk] at q1; cases q1; rw [ho] at q2; cases q2
      · exact (hg.block k (heap_lt hk) (fun e => hrow e.symm)).trans hk)
    (fun _ _ _ _ _ hs _ _ => hs)
    ⟨⟨_, d0, f0, SliceAt.nil _ _ _, fun k hk => by simp [Value.ownBlock] at hk⟩, hB0⟩
    (fun x => { tmps := #[.pointer (some ⟨g.s, 0, none⟩), undef, .slice none 0 0, .pointer (some ⟨w.heap.size, 0, none⟩), .pointer (some ⟨x.1.p, 0, none⟩), .pointer (some ⟨g.s, 0, none⟩), .bool false, .pointer (some ⟨g.s, 0, none⟩), .func (.func 71) #[] #[.pointer (some ⟨w.heap.size + 1, 0, none⟩)], .pointer (some ⟨x.1.p, 0, none⟩), undef, undef, undef, undef, undef, undef, undef, undef, undef, undef, undef, undef, undef, undef, undef, undef, undef, undef], defers := [] }) ?assign ?body ?done ?stop
  case assign =>
    intro l x W K hK
    gi_wp2
    exact hK
  case body =>
    rintro l pre x W ⟨⟨v, hc, hf, hv, ho⟩, hB⟩ hlen
    obtain ⟨A, B, hAB⟩ := x.split
    have hr := h.rep.below hB (Nat.le_refl _)
    obtain ⟨b0, b1, b2, -⟩ := nd_cells (hr.mid hAB)
    have hat : tell g.L x.1 = (sz (bs A), x.1.b.size, !x.1.b.used) := tell_at hAB h.rep.nodup
    have hlen2 : pre.length < 16000 := by
      have h1 := h.ok.le
      have h2 : 2 * S.length ≤ sz S := two_le h.ok.good
      rw [h.rep.map] at h1 h2
      rw [bs_length] at h2
      omega
    obtain ⟨v2, w2, hrun, hs2, ht2, hw2, hn2⟩ := run_append (P := Try.prog) (W.alloc (.cells #[.int .i64 (sz (bs A)), .int .i64 x.1.b.size, .bool (!x.1.b.used)] 46)).drew 25 25 25 46 3 24 (.agg #[.int .i64 0, .int .i64 0, .bool false]) Try.underlying25 (.inr ⟨_, Try.underlying25⟩) elemBlk
      v _ (SliceAt.drew (SliceAt.alloc hv _)) (.slice (some ⟨W.heap.size, 0, none⟩) 1 1) 1 [.int .i64 (sz (bs A)), .int .i64 x.1.b.size, .bool (!x.1.b.used)]
      (Src.slice _ _ _ _ rfl fun j u hu => by rw [Addr.add_lit, Nat.zero_add]; exact cell_at (heap_alloc_new W _) (by simpa using hu)) (by intro u hu; simp at hu; rcases hu with rfl | rfl | rfl <;> rfl)
      (by rw [blkCells_length]; simp [vals]; omega) (by rw [blkCells_length]; simp [vals]; omega)
    have hbx : w.heap.size < W.heap.size := cell_lt hc
    have hvb : ∀ k, v.ownBlock = some k → k ≠ w.heap.size := fun k hk e => by have := ho k hk; omega
    have hc2 : w2.cell? ⟨w.heap.size, 0, none⟩ = some v := by
      rw [ht2.cell (p := ⟨w.heap.size, 0, none⟩) (fun e => hvb _ e rfl) (by simp; omega)]
      show (World.alloc _ _).cell? _ = _
      exact cell_alloc_l _ hc
    have hf2 : w2.frozen? ⟨w.heap.size, 0, none⟩ = false := by
      rw [ht2.frozen (p := ⟨w.heap.size, 0, none⟩) (fun e => hvb _ e rfl) (by simp; omega)]
      show (World.alloc _ _).frozen? _ = _
      exact frozen_alloc_l _ hc hf
    have Hs2 := Lib.hid (And.intro hs2 (And.intro hw2 hat))
    have Hc := Lib.hid (And.intro ho hB)
    have HAB := Lib.hid hAB
    have Hv := Lib.hid hv
    clear hn2 hs2 hw2 hat hAB hlen hlen2 hvb
    obtain ⟨va, vn, vc, rfl, -⟩ := Hv.out.form
    obtain ⟨pa, pn, pc, rfl, -⟩ := Hs2.out.1.form
    gi_wp2
    refine wpIn_region_planG (aF := ?aF) [15, 16, 17] [[], [15], [15, 16], [15, 16, 17]] 3
      [(0, 0, 0), (0, 1, 1), (1, 0, 0), (1, 1, 1), (1, 2, 2), (2, 0, 0), (2, 1, 1), (2, 2, 2), (3, 0, 0), (4, 0, 0), (5, 0, 0), (5, 1, 1), (5, 2, 2), (6, 0, 0), (6, 1, 1), (6, 2, 2), (7, 0, 0), (8, 0, 0), (9, 0, 0), (9, 1, 1), (9, 2, 2), (10, 0, 0), (10, 1, 1), (10, 2, 2), (11, 0, 0), (11, 1, 1), (11, 2, 2), (12, 0, 0), (13, 0, 0), (14, 0, 0), (15, 0, 1), (16, 1, 2), (17, 2, 3)]
      [W.drew, (W.alloc (.cells #[.int .i64 (sz (bs A)), .int .i64 x.1.b.size, .bool (!x.1.b.used)] 46)).drew, w2, w2.setCell ⟨w.heap.size, 0, none⟩ (.slice pa pn pc)]
      [.slice va vn vc, .pointer (some ⟨x.1.p, 0, none⟩), .pointer (some ⟨x.1.p, 0, none⟩), .pointer (some ⟨x.1.p, 0, none⟩), .int .i64 (sz (bs A)), .pointer (some ⟨x.1.p, 0, none⟩), .pointer (some ⟨x.1.p, 0, none⟩), .pointer (some ⟨x.1.p, 1, none⟩), .int .i64 x.1.b.size, .pointer (some ⟨x.1.p, 0, none⟩), .pointer (some ⟨x.1.p, 0, none⟩), .pointer (some ⟨x.1.p, 2, none⟩), .bool x.1.b.used, .bool (!x.1.b.used), .agg #[.int .i64 (sz (bs A)), .int .i64 x.1.b.size, .bool (!x.1.b.used)], .slice (some ⟨W.heap.size, 0, none⟩) 1 1, .slice pa pn pc, undef]
      (by kernel_rfl) (by kernel_rfl) (by kernel_rfl) ?hF rfl rfl rfl ?hob ?hend
    case hF => simp only [putAll, Act.put]; go_simp; rfl
    case hob =>
      repeat' (first
        | exact oblsG_nil
        | (refine oblsG_cons rfl rfl rfl ?_ ?_)
        | exact Runs.append rfl _ _ _ _ rfl _ _ _ rfl rfl hrun rfl
        | (apply Runs.skip rfl rfl; (focus (go_simp; try exact rfl)); exact rfl)
        | (apply Runs.value rfl; (focus (go_simp; try exact rfl)); exact rfl))
    case hend =>
      gi_wp2
      have K1 : KeepsOthers W (w2.setCell ⟨w.heap.size, 0, none⟩ (.slice pa pn pc)) :=
        ((((KeepsOthers.alloc W (.cells #[.int .i64 (sz (bs A)), .int .i64 x.1.b.size, .bool (!x.1.b.used)] 46)).trans (KeepsOthers.drew _)).trans (KeepsOthers.of_turn ht2 fun k o hk hho => SliceAt.isCells (SliceAt.drew (SliceAt.alloc Hv.out _)) k o hk hho))).trans (KeepsOthers.setCell _ _ _)
      have B1 : Below w.heap.size W (w2.setCell ⟨w.heap.size, 0, none⟩ (.slice pa pn pc)) := by
        have q1 : Below w.heap.size W (W.alloc (.cells #[.int .i64 (sz (bs A)), .int .i64 x.1.b.size, .bool (!x.1.b.used)] 46)).drew := ((Below.refl _ W).alloc (by omega) _).drew
        have q2 : Below w.heap.size (W.alloc (.cells #[.int .i64 (sz (bs A)), .int .i64 x.1.b.size, .bool (!x.1.b.used)] 46)).drew w2 := ⟨ht2.os, ht2.tape, ht2.output, ht2.size, fun k hk => ht2.block k (by simp; omega) (fun e => by have := Hc.out.1 k e; omega)⟩
        exact (q1.trans q2).setCell (p := ⟨w.heap.size, 0, none⟩) (Nat.le_refl _) _
      refine ⟨K1, B1, ⟨.slice pa pn pc, World.cell?_setCell_same' _ _ _ (by rw [hc2]; rfl), by rw [World.frozen?_setCell]; exact hf2, ?_, fun k hk => ?_⟩, Hc.out.2.trans B1⟩
      · have e1 : blkCells ((vals (pre ++ [x])).map (tell g.L)) = blkCells ((vals pre).map (tell g.L)) ++ [.int .i64 (sz (bs A)), .int .i64 x.1.b.size, .bool (!x.1.b.used)] := by
          rw [vals_snoc, List.map_append, blkCells_append]
          simp [blkCells, acells, Hs2.out.2.2]
        rw [e1]
        refine Hs2.out.1.keep fun k hk => heap_setCell_ne _ ?_
        intro e
        rcases Hs2.out.2.1 with q | q
        · rw [q] at hk; have := Hc.out.1 k hk; have e' : k = w.heap.size := e; omega
        · rw [q] at hk; cases hk; simp at e; omega
      · rcases Hs2.out.2.1 with q | q
        · rw [q] at hk; exact Hc.out.1 k hk
        · rw [q] at hk; cases hk; simp; omega
  case done =>
    rintro D ys W hD hys ⟨⟨v, hc, hf, hv, ho⟩, hB⟩ hK
    have HY := Lib.hid hys
    clear hys
    gi_wp2
    refine ⟨by simp, .inl ⟨_, _, rfl, run_takeDeferred hK, ?_⟩⟩
    have kg := grownBy_putObj' W D (.deferred none)
    refine ⟨_, results_tmp rfl _ _ _, v, rfl, SliceAt.cells_kept (w := W) ?_ (fun k o hk ho => ?_), hB.trans (belowK_b (w := w) (Nat.le_refl _) W D _ _ (by omega) hK rfl rfl), fun k hk => Nat.le_of_lt (ho k hk)⟩
    · rw [HY.out, tell_all h.rep.nodup, ← h.rep.map] at hv; exact hv
    · by_cases hkD : k = D
      · subst hkD; rw [hK] at hk; cases hk; cases ho
      · exact (kg.block k (heap_lt hk) (fun e => hkD (by cases e; rfl))).trans hk
  case stop =>
    rintro D c pre W _ _ h _
    exact h.elim
end Go.Sto
