/-
  Tasks, walked.
-/
import Derived.Test.YtcfegaclbkggpaaRndSorted
namespace Go.Rnd
open Go.Own Go.RowKit Go.Proofs

theorem _root_.Go.Own.Src.block {w : World} {sz m g c : Nat} {cur : Array Value} {e : TypeId} {fr : Nat × Nat} (h : w.heap[g]? = some (.cells cur e fr)) (hs : cur.toList.length = m * sz) : Src w sz (.slice (some ⟨g, 0, none⟩) m c) m cur.toList := by
  refine Src.slice _ _ _ _ hs fun j u hu => ?_
  rw [Addr.add_lit]
  exact cell_at h (by simpa using hu)

/-- What turned is younger than the first world. -/
theorem _root_.Go.Own.Turn.young {S : Nat → Prop} {a b c : World} (h : Turn (fun _ => False) a b) (k : Turn S b c) (hS : ∀ i, S i → a.heap.size ≤ i) : Turn (fun _ => False) a c :=
  ⟨k.os.trans h.os, k.tape.trans h.tape, k.output.trans h.output, Nat.le_trans h.size k.size, fun i hi _ => by
    rw [k.block i (Nat.lt_of_lt_of_le hi h.size) (fun hs => by have := hS i hs; omega)]
    exact h.block i hi (fun e => e)⟩

section
variable {g : Gh} {K : KS} {w w' : World}

/-- The tasks that have come are in the row. -/
structure TsI (g : Gh) (K : KS) (w0 : World) (R : Nat) (cnt : Nat) (ov : Value) (w : World) : Prop where
  turn : Turn (fun _ => False) w0 w
  hR : w0.heap.size ≤ R
  ex : ∃ (left : Int → Bool) (l : List TR), RangeAt w g.mt R (tmap K.n g.tb) left cnt ∧ SliceAt w 55 7 ov (tcells l) ∧ (∀ b, ov.ownBlock = some b → w0.heap.size ≤ b ∧ b ≠ R) ∧
    (l.map TR.i).Nodup ∧ (∀ x ∈ l, 1 ≤ x.i ∧ x.i ≤ K.n ∧ x.pri = (K.ts x.i).pri ∧ x.wt = (K.ts x.i).wt ∧ left x.i = false) ∧ (∀ i : Nat, 1 ≤ i → i ≤ K.n → left i = false → ∃ x ∈ l, x.i = i)

def TasksPost (_g : Gh) (K : KS) (w : World) (e : Ending) (w' : World) : Prop :=
  ∃ v l, e = .returned v ∧ SliceAt w' 55 7 v (tcells l) ∧ Turn (fun _ => False) w w' ∧ (l.map TR.i).Nodup ∧ (∀ x ∈ l, 1 ≤ x.i ∧ x.i ≤ K.n ∧ x.pri = (K.ts x.i).pri ∧ x.wt = (K.ts x.i).wt) ∧ ∀ i, 1 ≤ i → i ≤ K.n → ∃ x ∈ l, x.i = i

set_option maxRecDepth 10000 in
set_option maxHeartbeats 2000000 in
theorem tasks_calls (h : Rep g K w) (hn : K.n ≤ 100) (hn1 : 1 ≤ K.n) (hl : ∀ i, 1 ≤ i → i ≤ K.n → (K.ts i).q.length ≤ 1000) {kb : Nat} (hk : g.k = kb) : Calls Try.prog 12 #[pt kb] w (TasksPost g K w) := by
  subst hk
  obtain ⟨mv, mvs, kq, -, -⟩ := h.kb
  obtain ⟨k0, -, -, -, -, -, -⟩ := k_cells kq
  have H := Lib.hid (And.intro h (And.intro hl (And.intro hn hn1)))
  clear h kq hl hn hn1
  go_enter Try.func12, Try.ntmps12
  go_wp2_with (first
    | (at_range
       refine wpList_rangeS rfl _ rfl Try.underlying38 rfl (H.out.1.tm) ?_
       intro w0 cnt0 hrg0 ho
       obtain ⟨o1, ho1⟩ := ho
       have hX := Lib.hid (And.intro hrg0 ho1)
       clear hrg0 ho1)
    | go_in)
  go_frame
  have T1 : Turn (fun _ => False) w w0 := by
    rw [hX.out.2]
    exact (Turn.refl (fun _ => False) w).alloc _
  obtain ⟨R, hR⟩ : ∃ R, w.heap.size = R := ⟨_, rfl⟩
  have hst : TsI g K w R cnt0 (.slice none 0 0) w0 := by
    refine ⟨T1, by omega, _, [], hR ▸ hX.out.1, SliceAt.nil _ _ _, fun b hb => by simp [Value.ownBlock] at hb, by simp, by simp, fun i i1 i2 hi => ?_⟩
    rw [tmap_in i1 i2] at hi
    cases hi
  have HS := Lib.hid (And.intro hst hR)
  rw [hR]
  clear hR k0 T1 hst hX
  go_loopg [3] (cnt0) (fun gk ov wr => TsI g K w R gk ov wr)
  case atStart => exact HS.out.1
  case round =>
    obtain ⟨hT, hRR, left, l, hrg, hs, hb, hnd, hall, hcov⟩ := hrel
    have HX := Lib.hid (And.intro hT (And.intro hRR (And.intro hs (And.intro hb (And.intro hnd (And.intro hall hcov))))))
    obtain ⟨va, vn, vc, rfl, hvl, -⟩ := hs.form
    have HVL := Lib.hid hvl
    clear hT hRR hs hb hnd hall hcov hvl
    go_wp2_with (first
      | (at_next; refine wpList_nextS rfl _ rfl rfl hrg ?_ ?_)
      | go_in)
    · intro hc0 hl0
      have HL := Lib.hid hl0
      clear hl0 hrg
      obtain ⟨x1, hx1, -⟩ := HX.out.2.2.2.2.2.2 1 (Nat.le_refl _) H.out.2.2.2 (HL.out 1)
      have hlen : l.length < 1000 := by
        have := nodup_small K.n (l.map TR.i) HX.out.2.2.2.2.1 (fun x hx => by
          obtain ⟨y, hy, rfl⟩ := List.mem_map.1 hx
          have := HX.out.2.2.2.2.2.1 y hy
          exact ⟨this.1, this.2.1⟩)
        rw [List.length_map] at this
        have := H.out.2.2.1
        omega
      have HS9 := Lib.hid (sorted_calls HX.out.2.2.1 hlen (fun e => by rw [e] at hx1; cases hx1))
      clear hlen hx1
      go_wp2_with fail
      refine HS9.out.mono ?_
      rintro e9 w9 ⟨rfl, l9, hp, hs9, T9⟩
      have HF := Lib.hid (And.intro hp (And.intro hs9 T9))
      clear hp hs9 T9
      go_wp2_with fail
      go_ret
      refine ⟨_, l9, rfl, HF.out.2.1, HX.out.1.young HF.out.2.2 (fun b hb => (HX.out.2.2.2.1 b hb).1), ?_, fun x hx => ?_, fun i i1 i2 => ?_⟩
      · exact (HF.out.1.map TR.i).nodup_iff.2 HX.out.2.2.2.2.1
      · obtain ⟨a1, a2, a3, a4, a5⟩ := HX.out.2.2.2.2.2.1 x (HF.out.1.mem_iff.1 hx)
        exact ⟨a1, a2, a3, a4⟩
      · obtain ⟨x, hx, h2⟩ := HX.out.2.2.2.2.2.2 i i1 i2 (HL.out i)
        exact ⟨x, HF.out.1.mem_iff.2 hx, h2⟩
    · intro k v1 w1 cnt1 hwk hlk hfk hrg1 hlt htn hsz hen
      obtain ⟨j, rfl, j1, j2, rfl⟩ := tmap_some hfk
      have R1 : Turn (fun _ => False) w w1 := HX.out.1.trans' htn HX.out.2.1
      obtain ⟨v2, tq, -⟩ := (H.out.1.new R1).task j j1 j2
      have HN := Lib.hid (And.intro hrg1 (And.intro htn (And.intro hlt (And.intro R1 (And.intro tq hlk)))))
      obtain ⟨s0, s1, s2, s3, s4, s7, sf⟩ := t_cells tq
      have s5 : w1.cell? ⟨g.tb j, 5, none⟩ = some (.int .i64 0) := cell_at tq rfl
      have s6 : w1.cell? ⟨g.tb j, 6, none⟩ = some (.slice none 0 0) := cell_at tq rfl
      clear hrg hrg1 htn hlt tq hfk hlk hwk R1
      generalize hG : gk = GK at *
      clear hG
      go_wp2_with fail
      obtain ⟨wb, hwb⟩ : ∃ wb, w1.alloc (.cells #[.int .i64 j, .int .i64 (K.ts j).pri, .bool false, .bool (K.ts j).wt, .int .i64 0, .int .i64 0, .slice none 0 0] 55) = wb := ⟨_, rfl⟩
      obtain ⟨B, hB⟩ : ∃ B, wr.heap.size = B := ⟨_, rfl⟩
      have hB1 : w1.heap.size = B := hsz.trans hB
      have Tb : Turn (fun _ => False) w1 wb := by rw [← hwb]; exact (Turn.refl _ w1).alloc _
      have Hb : wb.heap[B]? = some (.cells #[.int .i64 j, .int .i64 (K.ts j).pri, .bool false, .bool (K.ts j).wt, .int .i64 0, .int .i64 0, .slice none 0 0] 55 (0, 0)) := by rw [← hwb, ← hB1]; exact heap_alloc_new w1 _
      have R1 := H.out.1.new HN.out.2.2.2.1
      rw [hwb, hB]
      refine (ids_calls (R1.new Tb) j1 j2 (H.out.2.1 j j1 j2)).mono ?_
      rintro e6 w6 ⟨v6, rfl, ⟨a6, n6, c6, rfl⟩, T6⟩
      have Hb6 : w6.heap[B]? = some (.cells #[.int .i64 j, .int .i64 (K.ts j).pri, .bool false, .bool (K.ts j).wt, .int .i64 0, .int .i64 0, .slice none 0 0] 55 (0, 0)) := by rw [T6.block B (heap_lt Hb) (fun e => e)]; exact Hb
      have b0 : w6.cell? ⟨B, 0, none⟩ = some (.int .i64 j) := cell_at Hb6 rfl
      have b1 : w6.cell? ⟨B, 1, none⟩ = some (.int .i64 (K.ts j).pri) := cell_at Hb6 rfl
      have b2 : w6.cell? ⟨B, 2, none⟩ = some (.bool false) := cell_at Hb6 rfl
      have b3 : w6.cell? ⟨B, 3, none⟩ = some (.bool (K.ts j).wt) := cell_at Hb6 rfl
      have b4 : w6.cell? ⟨B, 4, none⟩ = some (.int .i64 0) := cell_at Hb6 rfl
      have b5 : w6.cell? ⟨B, 5, none⟩ = some (.int .i64 0) := cell_at Hb6 rfl
      have b6 : w6.cell? ⟨B, 6, none⟩ = some (.slice none 0 0) := cell_at Hb6 rfl
      have bf : ∀ i, w6.frozen? ⟨B, i, none⟩ = false := fun i => frozen_at Hb6
      have HB := Lib.hid (And.intro Tb (And.intro T6 (And.intro Hb6 (And.intro hB hB1))))
      clear hen Tb Hb R1 T6 Hb6 hB hB1 hwb s0 s1 s2 s3 s4 s5 s6 s7 sf
      obtain ⟨w7, hw7⟩ : ∃ w7, w6.setCell ⟨B, 6, none⟩ (.slice a6 n6 c6) = w7 := ⟨_, rfl⟩
      have T7 : Turn (fun _ => False) w1 w7 := by
        rw [← hw7]
        exact (HB.out.1.trans HB.out.2.1).setCell (fun hlt => by have := HB.out.2.2.2.2; dsimp only at hlt; omega) _
      have Hb7 : w7.heap[B]? = some (.cells #[.int .i64 j, .int .i64 (K.ts j).pri, .bool false, .bool (K.ts j).wt, .int .i64 0, .int .i64 0, .slice a6 n6 c6] 55 (0, 0)) := by rw [← hw7]; exact heap_setCell_self _ HB.out.2.2.1
      have d0 : w7.cell? ⟨B, 0, none⟩ = some (.int .i64 j) := cell_at Hb7 rfl
      have d1 : w7.cell? ⟨B, 1, none⟩ = some (.int .i64 (K.ts j).pri) := cell_at Hb7 rfl
      have d2 : w7.cell? ⟨B, 2, none⟩ = some (.bool false) := cell_at Hb7 rfl
      have d3 : w7.cell? ⟨B, 3, none⟩ = some (.bool (K.ts j).wt) := cell_at Hb7 rfl
      have d4 : w7.cell? ⟨B, 4, none⟩ = some (.int .i64 0) := cell_at Hb7 rfl
      have d5 : w7.cell? ⟨B, 5, none⟩ = some (.int .i64 0) := cell_at Hb7 rfl
      have d6 : w7.cell? ⟨B, 6, none⟩ = some (.slice a6 n6 c6) := cell_at Hb7 rfl
      have hsl : SliceAt w7 55 7 (.slice va vn vc) (tcells l) := (HX.out.2.2.1.turn HN.out.2.1 (fun b hb => (HX.out.2.2.2.1 b hb).2)).turn T7 (fun _ _ e => e)
      have hcnt : l.length ≤ 100 := by
        have := nodup_small K.n (l.map TR.i) HX.out.2.2.2.2.1 (fun x hx => by
          obtain ⟨y, hy, rfl⟩ := List.mem_map.1 hx
          have := HX.out.2.2.2.2.2.1 y hy
          exact ⟨this.1, this.2.1⟩)
        rw [List.length_map] at this
        have := H.out.2.2.1
        omega
      have hlen : (tcells l).length ≤ 700 := by rw [tcells_length]; omega
      have HL := Lib.hid (And.intro T7 (And.intro hsl hlen))
      clear T7 hsl hlen hcnt Hb7
      go_wp2_with (at_builtin; refine wpList_append _ rfl _ _ 52 52 rfl 55 7 64 (.agg #[.int .i64 0, .int .i64 0, .bool false, .bool false, .int .i64 0, .int .i64 0, .slice none 0 0]) Try.underlying52 (.inr ⟨_, Try.underlying52⟩) elemTask (.slice va vn vc) (tcells l) rfl ((HL.out.2.1.turn ((Turn.refl (fun _ => False) w7).alloc _) (fun _ _ hh => hh))) _ _ _ rfl (Src.block (heap_alloc_new w7 _) rfl) (by intro u hu; simp at hu; rcases hu with rfl | rfl | rfl | rfl | rfl | rfl | rfl <;> rfl) (by have := HL.out.2.2; simp; omega) (by have := HL.out.2.2; simp; omega) ?_
                   intro v' w8 hv' ht hw hn; clear hn; obtain ⟨ra, rn, rc, rfl, -⟩ := hv'.form
                   have hF := Lib.hid (And.intro hv' (And.intro ht hw))
                   clear hv' ht hw)
      go_roundg (cnt1)
      case measure => exact HN.out.2.2.1
      case rel =>
        have hRw := HN.out.1.lt
        have hz7 := HL.out.1.size
        have hT := HX.out.1.size
        have T8 : Turn (fun k => (Value.slice va vn vc).ownBlock = some k) w1 w8 := (((HL.out.1).mono fun _ _ e => e.elim).alloc _).trans hF.out.2.1
        have R1 := HN.out.2.2.2.1
        have hmt := H.out.1.tm.lt
        have hz1 := R1.size
        refine ⟨R1.young T8 ?_, HX.out.2.1, _, l ++ [⟨j, (K.ts j).pri, (K.ts j).wt, a6, n6, c6⟩], HN.out.1.keep ?_ ?_, ?_, ?_, ?_, ?_, ?_⟩
        · intro b hb
          exact (HX.out.2.2.2.1 b hb).1
        · exact T8.block _ (by omega) (fun e => by have := (HX.out.2.2.2.1 _ e).1; omega)
        · exact T8.block _ hRw (fun e => (HX.out.2.2.2.1 _ e).2 rfl)
        · rw [tcells_snoc]
          exact hF.out.1
        · intro b hb
          rcases hF.out.2.2 with e | e
          · exact HX.out.2.2.2.1 b (e ▸ hb)
          · rw [e] at hb
            have := Option.some.inj hb
            simp only [World.size_alloc] at this
            omega
        · rw [List.map_append, List.nodup_append]
          refine ⟨HX.out.2.2.2.2.1, by simp, fun x hx y hy e => ?_⟩
          simp at hy
          obtain ⟨z, hz, rfl⟩ := List.mem_map.1 hx
          have := (HX.out.2.2.2.2.2.1 z hz).2.2.2.2
          rw [e, hy, HN.out.2.2.2.2.2] at this
          cases this
        · intro x hx
          rcases List.mem_append.1 hx with hx | hx
          · obtain ⟨a1, a2, a3, a4, a5⟩ := HX.out.2.2.2.2.2.1 x hx
            exact ⟨a1, a2, a3, a4, by rw [a5]; rfl⟩
          · simp at hx
            subst hx
            exact ⟨j1, j2, rfl, rfl, by simp⟩
        · intro i i1 i2 hi
          by_cases e : i = j
          · exact ⟨_, List.mem_append_right _ (by simp; rfl), e.symm⟩
          · have : left i = false := by
              have hne : ((i : Int) = (j : Int)) = False := by simp; omega
              simpa [hne] using hi
            obtain ⟨x, hx, h2⟩ := HX.out.2.2.2.2.2.2 i i1 i2 this
            exact ⟨x, List.mem_append_left _ hx, h2⟩
end
end Go.Rnd
