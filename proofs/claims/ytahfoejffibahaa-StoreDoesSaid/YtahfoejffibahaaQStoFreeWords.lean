/-
  Free, walked: how many words are free, and the most that one block can get.
-/
import Derived.Test.YtahfoejffibahaaQStoBlocks
set_option linter.unusedVariables false

namespace Go.Sto
open Go.Own Go.RowKit Go.Proofs Go.Shelf
attribute [local go_sem] Oper.semAt_some

theorem freeWords_append (A B : St) : freeWords (A ++ B) = freeWords A + freeWords B := by
  induction A with
  | nil => simp [freeWords]
  | cons a A ih => simp [freeWords, ih]; omega
theorem largest_append (A B : St) : largest (A ++ B) = max (largest A) (largest B) := by
  induction A with
  | nil => simp [largest]
  | cons a A ih => simp [largest, ih]; try omega
theorem freeWords_le (A : St) : freeWords A ≤ sz A := by
  induction A with
  | nil => simp [freeWords]
  | cons a A ih => simp only [freeWords, sz]; split <;> omega
theorem largest_le (A : St) : largest A ≤ sz A := by
  induction A with
  | nil => simp [largest]
  | cons a A ih => simp only [largest, sz]; split <;> omega

theorem freeWords_bound {A : St} {m : Nat} (h : ∀ b ∈ A, b.size ≤ m) : freeWords A ≤ A.length * m := by
  induction A with
  | nil => simp [freeWords]
  | cons a A ih =>
    have h1 := h a (by simp)
    have h2 := ih fun b hb => h b (by simp [hb])
    simp only [freeWords, List.length_cons, Nat.add_mul, Nat.one_mul]
    split <;> omega
theorem largest_bound {A : St} {m : Nat} (h : ∀ b ∈ A, b.size ≤ m) : largest A ≤ m := by
  induction A with
  | nil => simp [largest]
  | cons a A ih =>
    have h1 := h a (by simp)
    have h2 := ih fun b hb => h b (by simp [hb])
    simp only [largest]
    split <;> omega
theorem size_le {S : St} {b : Blk} (hb : b ∈ S) : b.size ≤ sz S := by
  induction S with
  | nil => cases hb
  | cons a A ih =>
    simp only [sz]
    rcases List.mem_cons.1 hb with rfl | hb
    · omega
    · have := ih hb; omega

theorem freeWords_snoc_used (A : St) {b : Blk} (h : b.used = true) : freeWords (A ++ [b]) = freeWords A := by rw [freeWords_append]; simp [freeWords, h]
theorem freeWords_snoc_free (A : St) {b : Blk} (h : b.used = false) : freeWords (A ++ [b]) = freeWords A + b.size := by rw [freeWords_append]; simp [freeWords, h]
theorem largest_snoc_used (A : St) {b : Blk} (h : b.used = true) : largest (A ++ [b]) = largest A := by rw [largest_append]; simp [largest, h]
theorem largest_snoc_free (A : St) {b : Blk} (h : b.used = false) : largest (A ++ [b]) = max (largest A) (b.size - 1) := by rw [largest_append]; simp [largest, h]

theorem free_nil (w : World) : Calls Try.prog 21 #[.pointer none] w fun e w' => e = .returned (.tuple #[.int .i64 0, .int .i64 0]) ∧ Below w.heap.size w w' := by
  go_enter Try.func21, Try.ntmps21
  go_wp2
  refine ⟨by simp, .tuple #[.int .i64 0, .int .i64 0], by simp [results, Try.f21, go_sem], rfl, ((Below.refl _ w).alloc (Nat.le_refl _) _).alloc (by simp) _⟩

def FreeI (w : World) (n0 : Nat) (A : St) (W : World) : Prop :=
  (W.cell? ⟨n0, 0, none⟩ = some (.int .i64 (freeWords A)) ∧ W.frozen? ⟨n0, 0, none⟩ = false ∧ W.cell? ⟨n0 + 1, 0, none⟩ = some (.int .i64 (largest A)) ∧ W.frozen? ⟨n0 + 1, 0, none⟩ = false) ∧ Below n0 w W

set_option maxRecDepth 100000 in
set_option maxHeartbeats 2000000 in
theorem freewords_calls {g : Ghost} {S : St} {w : World} (h : Repo g S w) {s : Nat} (hs : g.s = s) :
    Calls Try.prog 21 #[.pointer (some ⟨s, 0, none⟩)] w fun e w' => e = .returned (.tuple #[.int .i64 (freeWords S), .int .i64 (largest S)]) ∧ Below w.heap.size w w' := by
  subst hs
  have hL := h.rep.isL
  have hro : Fence.wide.round = none := rfl
  refine (callsIn_wide (n := 3)).1 ?_
  refine callsIn_of_wp_marks Try.func21 rfl trivial ?_ rfl
  simp only [Try.ntmps21, List.size_toArray, List.length_cons, List.length_nil, Nat.reduceAdd, Nat.reduceSub, Array.replicate_succ, Array.replicate_zero, List.push_toArray, List.append_toArray, List.nil_append, List.cons_append]
  gi_wp2_with (first
    | (refine ⟨trivial, ?_⟩; gi_at_call 46; refine (all_in _ _ trivial rfl _ _).mono ?_; rintro e w' ⟨rfl, rfl⟩))
  have c0 := cell_new_l w (.int .i64 0) 3
  have c1 := cell_new_l (w.alloc (.cells #[.int .i64 0] 3)) (.int .i64 0) 3
  have c2 := cell_new_l ((w.alloc (.cells #[.int .i64 0] 3)).alloc (.cells #[.int .i64 0] 3)) (.pointer (some ⟨g.s, 0, none⟩)) 33
  simp only [World.size_alloc] at c1 c2
  obtain ⟨w0, hw0⟩ : ∃ w0, ((w.alloc (.cells #[.int .i64 0] 3)).alloc (.cells #[.int .i64 0] 3)).alloc (.cells #[.pointer (some ⟨g.s, 0, none⟩)] 33) = w0 := ⟨_, rfl⟩
  have hB0 : Below w.heap.size w w0 := by rw [← hw0]; exact (((Below.refl _ w).alloc (Nat.le_refl _) _).alloc (by simp) _).alloc (by simp; omega) _
  have hz0 : w0.heap.size = w.heap.size + 3 := by rw [← hw0]; simp
  have d0 := cell_alloc_l (.cells #[.pointer (some ⟨g.s, 0, none⟩)] 33) (cell_alloc_l (.cells #[.int .i64 0] 3) c0.1)
  have f0 := frozen_alloc_l (.cells #[.pointer (some ⟨g.s, 0, none⟩)] 33) (cell_alloc_l (.cells #[.int .i64 0] 3) c0.1) (frozen_alloc_l (.cells #[.int .i64 0] 3) c0.1 c0.2)
  have d1 := cell_alloc_l (.cells #[.pointer (some ⟨g.s, 0, none⟩)] 33) c1.1
  have f1 := frozen_alloc_l (.cells #[.pointer (some ⟨g.s, 0, none⟩)] 33) c1.1 c1.2
  have d2 := c2.1
  rw [hw0] at d0 d1 d2 f0 f1 ⊢
  clear c0 c1 c2 hw0
  obtain ⟨n0, hn0⟩ : ∃ n0, w.heap.size = n0 := ⟨_, rfl⟩
  have HN := Lib.hid hn0
  rw [hn0] at hB0 hz0 d0 d1 d2 f0 f1 hL ⊢
  clear hn0
  refine wpIn_rangeFunc_ownF hro (by omega) (gf := 71) (lb := #[.pointer (some ⟨n0 + 1 + 1, 0, none⟩)]) rfl trivial (enters_of Try.func71 (by kernel_rfl) rfl)
    (all_stops Fence.wide (3 - 1) trivial hro (by omega) (n0 + 1 + 1) n0 g.s g.L _ (by omega) (by omega) d2 (hL.below hB0)) belowK_t (belowK_b (by omega)) (Below.refl _ _) (fun _ => rfl)
    (fun pre W => FreeI w n0 (bs (vals pre)) W) (fun _ _ _ => False)
    (fun pre W W' row hs hg hr => by
      obtain ⟨⟨h1, h2, h3, h4⟩, h5⟩ := hs
      have hr' : ∀ r, row = some r → ∃ o : Obj, W.heap[r]? = some o ∧ o.isCells = false := fun r e => (hr r e).2
      exact ⟨⟨cell_kept h1 hg hr', (frozen_kept h1 hg hr').trans h2, cell_kept h3 hg hr', (frozen_kept h3 hg hr').trans h4⟩, h5.grown hg (by have := h5.size; have := HN.out; omega) (fun k e => by have := (hr k e).1; omega)⟩)
    (fun _ _ _ _ _ hs _ _ => hs)
    ⟨⟨d0, f0, d1, f1⟩, hB0⟩
    (fun x => { tmps := #[.pointer (some ⟨g.s, 0, none⟩), undef, .pointer (some ⟨n0, 0, none⟩), .pointer (some ⟨n0 + 1, 0, none⟩), .pointer (some ⟨x.1.p, 0, none⟩), .pointer (some ⟨g.s, 0, none⟩), .bool false, .pointer (some ⟨g.s, 0, none⟩), .func (.func 71) #[] #[.pointer (some ⟨n0 + 1 + 1, 0, none⟩)], .pointer (some ⟨x.1.p, 0, none⟩), undef, undef, undef, undef, undef, undef, undef, undef, undef, undef, undef, undef, undef, undef, undef, undef, undef, undef, undef, undef], defers := [] }) ?assign ?body ?done ?stop
  case assign =>
    intro l x W K hK
    gi_wp2
    exact hK
  case body =>
    rintro l pre x W ⟨⟨hc, hf, hc1, hf1⟩, hB⟩ hlen
    obtain ⟨A, B, hAB⟩ := x.split
    have hr := h.rep.below hB (by rw [HN.out]; exact Nat.le_refl _)
    obtain ⟨b0, b1, b2, -⟩ := nd_cells (hr.mid hAB)
    have HB := Lib.hid hB
    have HAB := Lib.hid hAB
    have hlen2 : freeWords (bs (vals pre)) + x.1.b.size ≤ 1000000000 ∧ largest (bs (vals pre)) ≤ 1000000 ∧ 1 ≤ x.1.b.size := by
      have q1 : ∀ b ∈ S, b.size ≤ 32000 := fun b hb => Nat.le_trans (size_le hb) h.ok.le
      have q2 : ∀ b ∈ bs (vals pre), b.size ≤ 32000 := fun b hb => by
        obtain ⟨y, hy, rfl⟩ := List.mem_map.1 hb
        obtain ⟨z, -, rfl⟩ := List.mem_map.1 hy
        exact q1 _ (by rw [h.rep.map]; exact List.mem_map_of_mem z.2)
      have q3 := freeWords_bound q2
      have q4 := largest_bound q2
      have hxb : x.1.b ∈ S := by rw [h.rep.map]; exact List.mem_map_of_mem x.2
      have q5 := q1 _ hxb
      have q6 := (h.ok.good _ hxb).two
      have q7 : 2 * S.length ≤ sz S := two_le h.ok.good
      have q8 := h.ok.le
      rw [h.rep.map, bs_length] at q7
      rw [h.rep.map] at q8
      rw [bs_length, show (vals pre).length = pre.length from List.length_map _] at q3
      have q9 : pre.length * 32000 ≤ 16000 * 32000 := Nat.mul_le_mul_right _ (by omega)
      exact ⟨by omega, by omega, by omega⟩
    obtain ⟨k1, k2, k3⟩ := hlen2
    rcases hu : x.1.b.used with _ | _
    · rw [hu] at b2
      have HU := Lib.hid hu
      clear hu hAB hB
      have e1 : IntKind.i64.wrap (((freeWords (bs (vals pre)) : Nat) : Int) + (x.1.b.size : Nat)) = ((freeWords (bs (vals pre)) : Nat) : Int) + (x.1.b.size : Nat) := IntWalk.i64_in _ (by omega)
      have e2 : IntKind.i64.wrap (((x.1.b.size : Nat) : Int) - 1) = ((x.1.b.size : Nat) : Int) - 1 := IntWalk.i64_in _ (by omega)
      gi_wp2
      refine wpIn_region_planG (aF := ?aFa) [6] [[], [6]] 1 [(0, 0, 0), (1, 0, 0), (2, 0, 0), (3, 0, 0), (4, 0, 0), (5, 0, 0), (6, 0, 1)]
        [W.drew, W.drew.setCell ⟨n0, 0, none⟩ (.int .i64 (((freeWords (bs (vals pre)) : Nat) : Int) + (x.1.b.size : Nat)))]
        [.int .i64 ((freeWords (bs (vals pre)) : Nat) : Int), .pointer (some ⟨x.1.p, 0, none⟩), .pointer (some ⟨x.1.p, 0, none⟩), .pointer (some ⟨x.1.p, 1, none⟩), .int .i64 (x.1.b.size : Nat), .int .i64 (((freeWords (bs (vals pre)) : Nat) : Int) + (x.1.b.size : Nat)), undef]
        (by kernel_rfl) (by kernel_rfl) (by kernel_rfl) ?hFa rfl rfl rfl ?hoba ?henda
      case hFa => simp only [putAll, Act.put]; go_simp; rfl
      case hoba =>
        repeat' (first
          | exact oblsG_nil
          | (refine oblsG_cons rfl rfl rfl ?_ ?_)
          | (apply Runs.skip rfl rfl; (focus (go_simp; try exact rfl)); exact rfl)
          | (apply Runs.value rfl; (focus (go_simp; try exact rfl)); exact rfl))
      case henda =>
        have hnx : n0 ≠ x.1.p := fun e => by
          have := h.rep.plt x.2
          have := HN.out
          omega
        have hnx2 : n0 + 1 ≠ x.1.p := fun e => by
          have := h.rep.plt x.2
          have := HN.out
          omega
        have d0 : (W.drew.setCell ⟨n0, 0, none⟩ (.int .i64 (((freeWords (bs (vals pre)) : Nat) : Int) + (x.1.b.size : Nat)))).cell? ⟨n0, 0, none⟩ = some (.int .i64 (((freeWords (bs (vals pre)) : Nat) : Int) + (x.1.b.size : Nat))) := World.cell?_setCell_same' _ _ _ (by show (World.cell? W _).isSome = true; rw [hc]; rfl)
        have g0 : (W.drew.setCell ⟨n0, 0, none⟩ (.int .i64 (((freeWords (bs (vals pre)) : Nat) : Int) + (x.1.b.size : Nat)))).frozen? ⟨n0, 0, none⟩ = false := by rw [World.frozen?_setCell]; exact hf
        have g1 : (W.drew.setCell ⟨n0, 0, none⟩ (.int .i64 (((freeWords (bs (vals pre)) : Nat) : Int) + (x.1.b.size : Nat)))).frozen? ⟨n0 + 1, 0, none⟩ = false := by rw [World.frozen?_setCell]; exact hf1
        have B1 : Below n0 W (W.drew.setCell ⟨n0, 0, none⟩ (.int .i64 (((freeWords (bs (vals pre)) : Nat) : Int) + (x.1.b.size : Nat)))) := ((Below.refl n0 W).drew).setCell (p := ⟨n0, 0, none⟩) (Nat.le_refl _) _
        have K1 : KeepsOthers W (W.drew.setCell ⟨n0, 0, none⟩ (.int .i64 (((freeWords (bs (vals pre)) : Nat) : Int) + (x.1.b.size : Nat)))) := (KeepsOthers.drew _).trans (KeepsOthers.setCell _ _ _)
        have d1 : (W.drew.setCell ⟨n0, 0, none⟩ (.int .i64 (((freeWords (bs (vals pre)) : Nat) : Int) + (x.1.b.size : Nat)))).cell? ⟨n0 + 1, 0, none⟩ = some (.int .i64 (largest (bs (vals pre)) : Nat)) := by
          simp only [World.cell?, heap_setCell_ne _ (show n0 + 1 ≠ (⟨n0, 0, none⟩ : Addr).block from by simp)]
          exact hc1
        have d2 : (W.drew.setCell ⟨n0, 0, none⟩ (.int .i64 (((freeWords (bs (vals pre)) : Nat) : Int) + (x.1.b.size : Nat)))).cell? ⟨x.1.p, 1, none⟩ = some (.int .i64 (x.1.b.size : Nat)) := by
          simp only [World.cell?, heap_setCell_ne _ (show x.1.p ≠ (⟨n0, 0, none⟩ : Addr).block from fun e => hnx e.symm)]
          exact b1
        obtain ⟨W2, hW2⟩ : ∃ W2, W.drew.setCell ⟨n0, 0, none⟩ (.int .i64 (((freeWords (bs (vals pre)) : Nat) : Int) + (x.1.b.size : Nat))) = W2 := ⟨_, rfl⟩
        rw [hW2] at d0 g0 g1 B1 K1 d1 d2 ⊢
        clear hW2 hc hf hc1 hf1 b0 b1 b2 hr
        gi_wp2
        refine wpIn_region_planG (aF := ?aFb) [7] [[], [7]] 1 [(0, 0, 0), (1, 0, 0), (2, 0, 0), (3, 0, 0), (4, 0, 0), (5, 0, 0), (6, 0, 0), (7, 0, 1)]
          [W2.drew, W2.drew.setCell ⟨n0 + 1, 0, none⟩ (.int .i64 (if ((largest (bs (vals pre)) : Nat) : Int) < ((x.1.b.size : Nat) : Int) - 1 then ((x.1.b.size : Nat) : Int) - 1 else ((largest (bs (vals pre)) : Nat) : Int)))]
          [.int .i64 ((largest (bs (vals pre)) : Nat) : Int), .pointer (some ⟨x.1.p, 0, none⟩), .pointer (some ⟨x.1.p, 0, none⟩), .pointer (some ⟨x.1.p, 1, none⟩), .int .i64 (x.1.b.size : Nat), .int .i64 ((x.1.b.size : Nat) - 1), .int .i64 (if ((largest (bs (vals pre)) : Nat) : Int) < ((x.1.b.size : Nat) : Int) - 1 then ((x.1.b.size : Nat) : Int) - 1 else ((largest (bs (vals pre)) : Nat) : Int)), undef]
          (by kernel_rfl) (by kernel_rfl) (by kernel_rfl) ?hFb rfl rfl rfl ?hobb ?hendb
        case hFb => simp only [putAll, Act.put]; go_simp; rfl
        case hobb =>
          repeat' (first
            | exact oblsG_nil
            | (refine oblsG_cons rfl rfl rfl ?_ ?_)
            | (apply Runs.skip rfl rfl; (focus (go_simp; try exact rfl)); exact rfl)
            | (apply Runs.value rfl; (focus (go_simp; try exact rfl)); exact rfl))
        case hendb =>
          gi_wp2
          all_goals
            refine ⟨K1.trans ((KeepsOthers.setCell W2 _ _).trans (KeepsOthers.drew _)), B1.trans (((Below.refl n0 W2).setCell (p := ⟨n0 + 1, 0, none⟩) (Nat.le_succ _) _).drew), ?_⟩
            show FreeI w n0 (bs (vals (pre ++ [x]))) _
            rw [vals_snoc, bs_append]
            show FreeI w n0 (bs (vals pre) ++ [x.1.b]) _
            unfold FreeI
            rw [freeWords_snoc_free _ HU.out, largest_snoc_free _ HU.out]
            refine ⟨⟨?_, ?_, ?_, ?_⟩, (HB.out.trans B1).trans (((Below.refl n0 W2).setCell (p := ⟨n0 + 1, 0, none⟩) (Nat.le_succ _) _).drew)⟩
            · show (World.setCell _ _ _).cell? _ = _
              simp only [World.cell?, heap_setCell_ne _ (show n0 ≠ (⟨n0 + 1, 0, none⟩ : Addr).block from by simp)]
              exact d0
            · show (World.setCell _ _ _).frozen? _ = _
              rw [World.frozen?_setCell]; exact g0
            · have e3 : ((max (largest (bs (vals pre))) (x.1.b.size - 1) : Nat) : Int) = if ((largest (bs (vals pre)) : Nat) : Int) < ((x.1.b.size : Nat) : Int) - 1 then ((x.1.b.size : Nat) : Int) - 1 else ((largest (bs (vals pre)) : Nat) : Int) := by split <;> omega
              rw [e3]
              first | rw [if_pos (by assumption)] | rw [if_neg (by omega)]
              exact World.cell?_setCell_same' _ _ _ (by show (World.cell? W2 _).isSome = true; rw [d1]; rfl)
            · show (World.setCell _ _ _).frozen? _ = _
              rw [World.frozen?_setCell]; exact g1
    · rw [hu] at b2
      have HU := Lib.hid hu
      clear hu hAB hB
      gi_wp2
      refine ⟨KeepsOthers.refl _, Below.refl _ _, ?_⟩
      show FreeI w n0 (bs (vals (pre ++ [x]))) W
      rw [vals_snoc, bs_append]
      show FreeI w n0 (bs (vals pre) ++ [x.1.b]) W
      unfold FreeI
      rw [freeWords_snoc_used _ HU.out, largest_snoc_used _ HU.out]
      exact ⟨⟨hc, hf, hc1, hf1⟩, HB.out⟩
  case done =>
    rintro D ys W hD hys ⟨⟨h1, h2, h3, h4⟩, hB⟩ hK
    have HY := Lib.hid hys
    clear hys
    gi_wp2
    gi_region
    gi_wp2
    have hW3 : ∀ v1 v2 : Value, ((W.setCell ⟨n0, 0, none⟩ v1).setCell ⟨n0 + 1, 0, none⟩ v2).drew.heap[D]? = some (Obj.deferred (some [])) := fun v1 v2 => by
      show (World.setCell _ _ _).heap[D]? = _
      rw [heap_setCell_ne _ (show D ≠ (⟨n0 + 1, 0, none⟩ : Addr).block from by intro e; simp at e; omega), heap_setCell_ne _ (show D ≠ (⟨n0, 0, none⟩ : Addr).block from by intro e; simp at e; omega)]
      exact hK
    have hz := HN.out
    have k0 := belowK_b (w := w) (Nat.le_of_eq hz.symm) ((W.setCell ⟨n0, 0, none⟩ (.int .i64 ((freeWords (bs (vals ys)) : Nat) : Int))).setCell ⟨n0 + 1, 0, none⟩ (.int .i64 ((largest (bs (vals ys)) : Nat) : Int))).drew D _ (.deferred none) (by omega) (hW3 _ _) rfl rfl
    have c0 : ((W.setCell ⟨n0, 0, none⟩ (.int .i64 ((freeWords (bs (vals ys)) : Nat) : Int))).setCell ⟨n0 + 1, 0, none⟩ (.int .i64 ((largest (bs (vals ys)) : Nat) : Int))).drew.cell? ⟨n0, 0, none⟩ = some (.int .i64 ((freeWords (bs (vals ys)) : Nat) : Int)) := by
      show (World.setCell _ _ _).cell? _ = _
      simp only [World.cell?, heap_setCell_ne _ (show n0 ≠ (⟨n0 + 1, 0, none⟩ : Addr).block from by simp)]
      exact World.cell?_setCell_same' _ _ _ (by rw [h1]; rfl)
    have c1 : ((W.setCell ⟨n0, 0, none⟩ (.int .i64 ((freeWords (bs (vals ys)) : Nat) : Int))).setCell ⟨n0 + 1, 0, none⟩ (.int .i64 ((largest (bs (vals ys)) : Nat) : Int))).drew.cell? ⟨n0 + 1, 0, none⟩ = some (.int .i64 ((largest (bs (vals ys)) : Nat) : Int)) := by
      show (World.setCell _ _ _).cell? _ = _
      exact World.cell?_setCell_same' _ _ _ (by
        simp only [World.cell?, heap_setCell_ne _ (show n0 + 1 ≠ (⟨n0, 0, none⟩ : Addr).block from by simp)]
        have := h3
        unfold World.cell? at this
        rw [this]; rfl)
    have B3 : Below n0 W ((W.setCell ⟨n0, 0, none⟩ (.int .i64 ((freeWords (bs (vals ys)) : Nat) : Int))).setCell ⟨n0 + 1, 0, none⟩ (.int .i64 ((largest (bs (vals ys)) : Nat) : Int))).drew := (((Below.refl n0 W).setCell (p := ⟨n0, 0, none⟩) (Nat.le_refl _) _).setCell (p := ⟨n0 + 1, 0, none⟩) (Nat.le_succ _) _).drew
    refine ⟨by simp, .inl ⟨_, _, rfl, run_takeDeferred (hW3 _ _), ?_⟩⟩
    obtain ⟨W3, hW3'⟩ : ∃ W3, ((W.setCell ⟨n0, 0, none⟩ (.int .i64 ((freeWords (bs (vals ys)) : Nat) : Int))).setCell ⟨n0 + 1, 0, none⟩ (.int .i64 ((largest (bs (vals ys)) : Nat) : Int))).drew = W3 := ⟨_, rfl⟩
    rw [hW3'] at k0 c0 c1 B3 ⊢
    clear hW3 hW3'
    have hzW := hB.size
    have c0' : (W3.putObj D (.deferred none)).cell? ⟨n0, 0, none⟩ = some (.int .i64 ((freeWords (bs (vals ys)) : Nat) : Int)) := by
      have e := (grownBy_putObj' W3 D (.deferred none)).block n0 (cell_lt c0) (fun e => by have := Option.some.inj e; omega)
      simp only [World.cell?, e]; exact c0
    have c1' : (W3.putObj D (.deferred none)).cell? ⟨n0 + 1, 0, none⟩ = some (.int .i64 ((largest (bs (vals ys)) : Nat) : Int)) := by
      have e := (grownBy_putObj' W3 D (.deferred none)).block (n0 + 1) (cell_lt c1) (fun e => by have := Option.some.inj e; omega)
      simp only [World.cell?, e]; exact c1
    rw [HY.out, ← h.rep.map] at c0' c1'
    refine ⟨_, ?_, rfl, by rw [hz]; exact hB.trans (B3.trans k0)⟩
    clear k0 B3 c0 c1 hB
    simp [results, Try.f21, go_sem, c0', c1']
  case stop =>
    rintro D c pre W _ _ h _
    exact h.elim
end Go.Sto
