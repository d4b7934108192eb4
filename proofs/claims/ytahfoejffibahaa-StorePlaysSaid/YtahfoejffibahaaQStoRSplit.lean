/-
  The reference's split, walked.
-/
import Derived.Test.YtahfoejffibahaaQStoROut
set_option linter.unusedVariables false

namespace Go.Sto
open Go.Own Go.RowKit Go.Proofs

theorem _root_.Go.Own.Turn.below0 {a b : World} (h : Turn (fun _ => False) a b) {n : Nat} (hn : n ≤ a.heap.size) : Below n a b := ⟨h.os, h.tape, h.output, h.size, fun k hk => h.block k (by omega) id⟩
theorem rcells_take (L : List RN) (i : Nat) : (rcells L).take (i * 2) = rcells (L.take i) := by
  induction L generalizing i with
  | nil => simp [rcells]
  | cons x L ih =>
    cases i with
    | zero => simp [rcells]
    | succ i =>
      have e : (i + 1) * 2 = i * 2 + 2 := by omega
      have := ih i
      simp only [rcells, List.flatMap_cons, List.take_succ_cons] at this ⊢
      rw [e, show rcell x = [.slice x.a x.n x.cap, .bool x.u] from rfl]
      simp only [List.cons_append, List.nil_append, List.take_succ_cons]
      rw [this]
theorem rcells_drop (L : List RN) (i : Nat) : (rcells L).drop (i * 2) = rcells (L.drop i) := by
  induction L generalizing i with
  | nil => simp [rcells]
  | cons x L ih =>
    cases i with
    | zero => simp
    | succ i =>
      have e : (i + 1) * 2 = i * 2 + 2 := by omega
      have := ih i
      simp only [rcells, List.flatMap_cons, List.drop_succ_cons] at this ⊢
      rw [e, show rcell x = [.slice x.a x.n x.cap, .bool x.u] from rfl]
      simp only [List.cons_append, List.nil_append, List.drop_succ_cons]
      rw [this]
theorem sz_split {S : St} {i : Nat} {b : Blk} (h : S[i]? = some b) : sz S = sz (S.take i) + (b.size + sz (S.drop (i + 1))) := by
  have h3 : S = S.take i ++ b :: S.drop (i + 1) := by
    have h1 := List.getElem?_eq_some_iff.1 h
    have h2 := List.drop_eq_getElem_cons h1.1
    rw [h1.2] at h2
    rw [← h2, List.take_append_drop]
  have h4 : sz (S.take i ++ b :: S.drop (i + 1)) = sz (S.take i) + (b.size + sz (S.drop (i + 1))) := by rw [sz_append]; rfl
  rw [← h3] at h4
  exact h4
theorem _root_.Go.Own.SliceAt.elem {w : World} {e : TypeId} {sz : Nat} {v : Value} {xs : List Value} (h : SliceAt w e sz v xs) {k : Nat} (hk : v.ownBlock = some k) {cur : Array Value} {e' : TypeId} {fr : Nat × Nat} (hb : w.heap[k]? = some (.cells cur e' fr)) : e = e' := by
  rcases h with ⟨rfl, _⟩ | ⟨g, off, n, cap, cur', rfl, hg, _⟩
  · simp [Value.ownBlock] at hk
  · simp only [Value.ownBlock, Option.some.injEq] at hk
    subst hk
    rw [hg] at hb
    cases hb; rfl
theorem list_eq2 (A : St) (x y : Blk) (B : St) : A ++ [x] ++ [y] ++ B = A ++ x :: ([y] ++ B) := by simp
theorem list_eq1 (A : St) (x : Blk) (B : St) : A ++ [x] ++ B = A ++ x :: ([] ++ B) := by simp
theorem split_sz2 {S : St} {i n : Nat} {b : Blk} {l : List Int} (h : S[i]? = some b) (hn : n ≤ b.size) : sz (S.take i ++ [⟨n, true, l⟩] ++ [hole (b.size - n)] ++ S.drop (i + 1)) = sz S := by
  rw [sz_split h]; simp only [sz_append, sz, hole]; omega
theorem split_sz1 {S : St} {i n : Nat} {b : Blk} {l : List Int} (h : S[i]? = some b) (hn : n = b.size) : sz (S.take i ++ [⟨n, true, l⟩] ++ S.drop (i + 1)) = sz S := by
  rw [sz_split h]; simp only [sz_append, sz]; omega
theorem split_len2 (S : St) (i : Nat) (x y : Blk) (h : S.length ≤ 16000) : (S.take i ++ [x] ++ [y] ++ S.drop (i + 1)).length ≤ 17000 := by
  simp only [List.length_append, List.length_take, List.length_singleton, List.length_drop]; omega
theorem split_len1 (S : St) (i : Nat) (x : Blk) (h : S.length ≤ 16000) : (S.take i ++ [x] ++ S.drop (i + 1)).length ≤ 17000 := by
  simp only [List.length_append, List.length_take, List.length_singleton, List.length_drop]; omega
theorem take_drop_apart {R : RN → RN → Prop} {L : List RN} (h : L.Pairwise R) {i : Nat} {y q : RN} (hy : y ∈ L.take i) (hq : q ∈ L.drop (i + 1)) : R y q := by
  rw [← List.take_append_drop i L] at h
  refine (List.pairwise_append.1 h).2.2 y hy q ?_
  rw [← List.drop_drop] at hq
  exact List.mem_of_mem_drop hq
theorem gt_facts (a b : Nat) : (a < b ∧ decide ((a : Int) < (b : Int)) = true ∧ decide (a < b) = true) ∨ (¬ a < b ∧ decide ((a : Int) < (b : Int)) = false ∧ decide (a < b) = false) := by
  by_cases h : a < b
  · exact .inl ⟨h, by simp; omega, by simp; omega⟩
  · exact .inr ⟨h, by simp; omega, by simp; omega⟩

set_option maxRecDepth 100000 in
set_option maxHeartbeats 4000000 in
theorem rsplit_calls {w : World} {v : Value} {L : List RN} {S : St} (h : RC w v L S) {N : Nat} (hap : Ap N L) (hN : N ≤ w.heap.size) (hs : sz S ≤ 100000) (hl : S.length ≤ 16000)
    {i n : Nat} {x : RN} {b : Blk} {ws : List Int} (hx : L[i]? = some x) (hb : S[i]? = some b) (hxn : x.n = b.size) (hws : SliceAt w 3 1 (.slice x.a x.n x.cap) (icells ws)) (hwl : ws.length = b.size) (hn0 : 0 < n) (hnb : n ≤ b.size) (hbs : b.size ≤ 100000) :
    Calls Try.prog 69 #[.agg #[v], .int .i64 i, .int .i64 n] w (RJoinPost N (fuse (S.take i ++ ⟨n, true, (ws.take n).drop 1⟩ :: (rest b.size n ++ S.drop (i + 1)))) w) := by
  obtain ⟨a, cap, rfl, hn, hc, hcell⟩ := h.ref.form
  have hll : L.length ≤ 16000 := by rw [h.len]; exact hl
  have hil : i < L.length := (List.getElem?_eq_some_iff.1 hx).1
  obtain ⟨bb, off, rfl, e0, e1⟩ := hcell i x hx
  have hbn : bb < w.heap.size := cell_lt e0
  have hxc : x.n ≤ x.cap := by
    obtain ⟨a', n', c', e, -, h1, -⟩ := SliceAt.form hws
    cases e; exact h1
  have H := Lib.hid (And.intro h (And.intro hap (And.intro hN (And.intro hs (And.intro hx (And.intro hb (And.intro hxn (And.intro hws hwl))))))))
  clear h hap hN hs hl hx hb hws hwl hcell
  have hxn1 : n ≤ x.n := by omega
  have hxn2 : x.n ≤ 100000 := by omega
  clear hxn hnb hbs
  obtain ⟨T, hT⟩ : ∃ T, fuse (S.take i ++ ⟨n, true, (ws.take n).drop 1⟩ :: (rest b.size n ++ S.drop (i + 1))) = T := ⟨_, rfl⟩
  rw [hT]
  have HT := Lib.hid hT
  clear hT
  go_enter Try.func69, Try.ntmps69
  go_upto_region 2 with fail
  obtain ⟨n0, hn0'⟩ : ∃ n0, w.heap.size = n0 := ⟨_, rfl⟩
  obtain ⟨w1, hw1⟩ : ∃ w1, ((w.alloc (.cells #[.slice (some ⟨bb, off, none⟩) L.length cap] 59)).alloc (.cells #[.slice none 0 0] 59)).alloc (.cells #[.slice none 0 0] 59) = w1 := ⟨_, rfl⟩
  have hB1 : Below w.heap.size w w1 := by rw [← hw1]; exact (((Below.refl _ w).alloc (Nat.le_refl _) _).alloc (by simp) _).alloc (by simp; omega) _
  have d0 : w1.cell? ⟨n0, 0, none⟩ = some (.slice (some ⟨bb, off, none⟩) L.length cap) := by rw [← hw1, ← hn0']; exact cell_at ((heap_alloc_lt _ _ _ (by simp; omega)).trans ((heap_alloc_lt _ _ _ (by simp)).trans (heap_alloc_new w _))) rfl
  have d1 : w1.cell? ⟨n0 + 1, 0, none⟩ = some (.slice none 0 0) ∧ w1.frozen? ⟨n0 + 1, 0, none⟩ = false ∧ w1.heap[n0 + 1]? = some (.cells #[.slice none 0 0] 59 (0, 0)) := by
    have : w1.heap[n0 + 1]? = some (.cells #[.slice none 0 0] 59 (0, 0)) := by rw [← hw1, ← hn0']; exact (heap_alloc_lt _ _ _ (by simp)).trans (by have := heap_alloc_new (w.alloc (.cells #[.slice (some ⟨bb, off, none⟩) L.length cap] 59)) (.cells #[.slice none 0 0] 59); simpa using this)
    exact ⟨cell_at this rfl, frozen_at this, this⟩
  have d2 : w1.cell? ⟨n0 + 2, 0, none⟩ = some (.slice none 0 0) ∧ w1.frozen? ⟨n0 + 2, 0, none⟩ = false := by
    have : w1.heap[n0 + 2]? = some (.cells #[.slice none 0 0] 59 (0, 0)) := by rw [← hw1, ← hn0']; have := heap_alloc_new ((w.alloc (.cells #[.slice (some ⟨bb, off, none⟩) L.length cap] 59)).alloc (.cells #[.slice none 0 0] 59)) (.cells #[.slice none 0 0] 59); simpa using this
    exact ⟨cell_at this rfl, frozen_at this⟩
  have hz1 : w1.heap.size = n0 + 3 := by rw [← hw1, ← hn0']; simp
  rw [hw1, hn0']
  have e0 : w1.cell? ⟨bb, off + i * 2, none⟩ = some (.slice x.a x.n x.cap) := (hB1.cell (p := ⟨bb, off + i * 2, none⟩) hbn).trans e0
  have e1 : w1.cell? ⟨bb, off + i * 2 + 1, none⟩ = some (.bool x.u) := (hB1.cell (p := ⟨bb, off + i * 2 + 1, none⟩) hbn).trans e1
  have hbn : bb < n0 := by omega
  have hB1 : Below n0 w w1 := by rw [hn0'] at hB1; exact hB1
  have H1 := Lib.hid (And.intro hB1 (And.intro d1 (And.intro hn0' hz1)))
  clear hw1 hn0' hB1 d1 hz1
  go_upto_region 3 with fail
  obtain ⟨wA, hwA⟩ : ∃ wA, w1.alloc (.cells #[.slice x.a x.n x.cap, .bool x.u] 108) = wA := ⟨_, rfl⟩
  have hB1 := H1.out.1
  have hz1 := H1.out.2.2.2
  have hw0 := H1.out.2.2.1
  have tA : Turn (fun _ => False) w1 wA := by rw [← hwA]; exact (Turn.refl (fun _ => False) w1).alloc _
  have hzA : wA.heap.size = w1.heap.size + 1 := by rw [← hwA]; simp
  have x0 : wA.cell? ⟨w1.heap.size, 0, none⟩ = some (.slice x.a x.n x.cap) := by rw [← hwA]; exact cell_at (heap_alloc_new w1 _) rfl
  rw [hwA]
  obtain ⟨xb, hxb⟩ : ∃ xb, w1.heap.size = xb := ⟨_, rfl⟩
  rw [hxb] at x0 ⊢
  obtain ⟨ob, hob⟩ : ∃ ob, n0 + 1 + 1 = ob := ⟨_, rfl⟩
  rw [hob]
  obtain ⟨rb, hrb⟩ : ∃ rb, n0 + 1 = rb := ⟨_, rfl⟩
  rw [hrb]
  have oo : wA.cell? ⟨ob, 0, none⟩ = some (.slice none 0 0) := (tA.cell (p := ⟨ob, 0, none⟩) id (by show ob < _; omega)).trans (by rw [← hob]; exact d2.1)
  have of_ : wA.frozen? ⟨ob, 0, none⟩ = false := (tA.frozen (p := ⟨ob, 0, none⟩) id (by show ob < _; omega)).trans (by rw [← hob]; exact d2.2)
  have s0 : wA.cell? ⟨n0, 0, none⟩ = some (.slice (some ⟨bb, off, none⟩) L.length cap) := (tA.cell (p := ⟨n0, 0, none⟩) id (by show n0 < _; omega)).trans d0
  have rh : wA.heap[rb]? = some (.cells #[.slice none 0 0] 59 (0, 0)) := (tA.block rb (by omega) id).trans (by rw [← hrb]; exact H1.out.2.1.2.2)
  have r0 : wA.cell? ⟨rb, 0, none⟩ = some (.slice none 0 0) := (tA.cell (p := ⟨rb, 0, none⟩) id (by show rb < _; omega)).trans (by rw [← hrb]; exact H1.out.2.1.1)
  have rf : wA.frozen? ⟨rb, 0, none⟩ = false := (tA.frozen (p := ⟨rb, 0, none⟩) id (by show rb < _; omega)).trans (by rw [← hrb]; exact H1.out.2.1.2.1)
  have hBA : Below n0 w wA := hB1.trans (tA.below0 (by omega))
  have hord : n0 < rb ∧ rb < ob ∧ ob < xb ∧ wA.heap.size = xb + 1 ∧ w.heap.size = n0 := ⟨by omega, by omega, by omega, by omega, hw0⟩
  have hI0 : OuI wA ob (xb + 1) N wA (.slice none 0 0) [] [] := { oc := oo, fr := of_, rc := RC.nil _, sep := Sep.nil _, vl := fun k hk => by simp [Value.ownBlock] at hk, nb := fun y hy => by simp at hy, tn := Turn.refl _ _, lt := by omega, big := by omega }
  -- what of the old store reads at wA
  have hRA : RC wA (.slice (some ⟨bb, off, none⟩) L.length cap) L S := H.out.1.below (by rw [hw0]; exact hBA)
  have hLlt : ∀ y ∈ L, ∀ k, y.val.ownBlock = some k → k < n0 := fun y hy k hk => by rw [← hw0]; exact H.out.1.blt y hy k hk
  have hwsA : SliceAt wA 3 1 (.slice x.a x.n x.cap) (icells ws) := SliceAt.keep H.out.2.2.2.2.2.2.2.1 fun k hk => hBA.block k (by rw [← hw0]; exact SliceAt.lt H.out.2.2.2.2.2.2.2.1 k hk)
  have hNn : N ≤ n0 := by rw [← hw0]; exact H.out.2.2.1
  have HA := Lib.hid (And.intro hI0 (And.intro hRA (And.intro hLlt (And.intro hwsA (And.intro hNn (And.intro hord (And.intro s0 (And.intro x0 (And.intro r0 (And.intro rf (And.intro hBA rh)))))))))))
  clear rh hI0 hRA hLlt hwsA hNn hord hBA tA hzA hwA hob hrb hxb hz1 hw0 hB1 H1 d0 d2 e0 e1 hbn r0 rf
  -- out.L = append(out.L, s.L[:i]...)
  obtain ⟨ra, rn, rc, W1, hr1, hI1, o1, f1, -⟩ := (HA.out.1.more ((Turn.refl (fun _ => False) wA).drew)).run (Src.of_slice (show SliceAt wA.drew 108 2 (.slice (some ⟨bb, off, none⟩) i cap) (rcells (L.take i)) from by
    have := SliceAt.take HA.out.2.1.drew.ref i (by omega)
    rwa [rcells_take] at this)) (S2 := S.take i) (by rw [List.length_take, List.length_take, H.out.1.len]) (fun j y c h1 h2 => by
      rw [List.getElem?_take] at h1 h2
      split at h1
      · rename_i hj
        rw [if_pos hj] at h2
        exact HA.out.2.1.drew.blk j y c h1 h2
      · cases h1) (by have := HA.out.2.2.2.2.1; have := HA.out.2.2.2.2.2.1; omega) (fun y hy k hk => by
      have h1 := HA.out.2.2.1 y (List.mem_of_mem_take hy) k hk
      have h2 := HA.out.2.2.2.2.2.1
      exact ⟨by omega, H.out.2.1.1 y (List.mem_of_mem_take hy) k hk, by simp [Value.ownBlock]⟩) (H.out.2.1.2.sublist (List.take_sublist i L)) (fun y hy => by simp at hy) (by rw [List.length_take]; simp; omega) 57
  rw [List.nil_append, List.nil_append] at hI1
  have HR1 := Lib.hid hr1
  have HI1 := Lib.hid hI1
  clear hr1 hI1
  have q1 : decide ((i : Int) ≤ (L.length : Int)) = true := by simp; omega
  have q2 : decide (i ≤ L.length) = true := by simp; omega
  have q3 : i ≤ cap := by omega
  refine wp_region_planG (aF := ?aF3) [6, 8] [[], [6], [6, 8]] 2 [(0, 0, 0), (1, 0, 0), (2, 0, 0), (3, 0, 0), (4, 0, 0), (5, 0, 0), (6, 0, 1), (7, 1, 1), (8, 1, 2)]
    [wA.drew, W1, W1.setCell ⟨ob, 0, none⟩ (.slice ra rn rc)]
    [.pointer (some ⟨ob, 0, none⟩), .slice none 0 0, .pointer (some ⟨n0, 0, none⟩), .slice (some ⟨bb, off, none⟩) L.length cap, .int .i64 i, .slice (some ⟨bb, off, none⟩) i cap, .slice ra rn rc, .pointer (some ⟨ob, 0, none⟩), undef]
    (by kernel_rfl) (by kernel_rfl) ?hF3 rfl rfl rfl ?hob3 ?hend3
  case hF3 => simp only [putAll, Act.put]; go_simp; rfl
  case hob3 =>
    repeat' (first
      | exact oblsG_nil
      | (refine oblsG_cons rfl rfl rfl ?_ ?_)
      | exact Runs.value rfl rfl rfl
      | exact Runs.append rfl _ _ _ _ rfl _ _ _ rfl rfl HR1.out rfl
      | (apply Runs.skip rfl rfl; (focus (go_simp; try exact rfl)); exact rfl)
      | (apply Runs.value rfl; (focus (go_simp; try exact rfl)); exact rfl))
  case hend3 =>
    obtain ⟨wB, hwB⟩ : ∃ wB, W1.setCell ⟨ob, 0, none⟩ (.slice ra rn rc) = wB := ⟨_, rfl⟩
    rw [hwB]
    have hI1 := HI1.out
    rw [hwB] at hI1
    clear HI1 HR1 hwB o1 f1
    -- out.L = append(out.L, block{append([]int(nil), b.words[:n]...), true})
    go_upto_region 4 with fail
    have hz0 := hI1.big
    have ho := HA.out.2.2.2.2.2.1
    have hwsB : SliceAt wB.drew 3 1 (.slice x.a n x.cap) (icells (ws.take n)) := by
      have h1 := SliceAt.take HA.out.2.2.2.1 n (by omega)
      rw [Nat.mul_one, ← icells_take] at h1
      refine SliceAt.drew (SliceAt.keep h1 fun k hk => hI1.tn.block k (SliceAt.lt h1 k hk) ?_)
      have h2 : k < n0 := by
        have hk' : (Value.slice x.a x.n x.cap).ownBlock = some k := by
          cases hxa : x.a with
          | none => rw [hxa] at hk; simp [Value.ownBlock] at hk
          | some q => rw [hxa] at hk; exact hk
        have h3 := SliceAt.lt H.out.2.2.2.2.2.2.2.1 k hk'
        omega
      omega
    have hwn : (ws.take n).length = n := by rw [List.length_take, H.out.2.2.2.2.2.2.2.2]; have := H.out.2.2.2.2.2.2.1; omega
    obtain ⟨a8, c8, Wc, hr8, s8, o8, b8⟩ := run_copy wB.drew x.a n x.cap (ws.take n) hwsB (by omega) (by omega) 24
    have hzd : wB.drew.heap.size = wB.heap.size := rfl
    obtain ⟨nb, hnb⟩ : ∃ nb, Wc.heap.size = nb := ⟨_, rfl⟩
    obtain ⟨Wd, hWd⟩ : ∃ Wd, Wc.alloc (.cells #[.slice a8 n c8, .bool true] 108) = Wd := ⟨_, rfl⟩
    have tc : Turn (fun _ => False) wB Wc := ((Turn.refl (fun _ => False) wB).drew).trans ⟨b8.os, b8.tape, b8.output, b8.size, fun k hk _ => b8.block k hk⟩
    have td : Turn (fun _ => False) Wc Wd := by rw [← hWd]; exact (Turn.refl (fun _ => False) Wc).alloc _
    have hIc := hI1.more tc
    have hId := hIc.more td
    have hNd : Wd.heap[nb]? = some (.cells (rcells [⟨a8, n, c8, true⟩]).toArray 108 (0, 0)) := by rw [← hWd, ← hnb]; exact heap_alloc_new Wc _
    have hvB : ∀ k, (Value.slice ra rn rc).ownBlock = some k → k < wB.heap.size := fun k hk => SliceAt.lt hI1.rc.ref k hk
    obtain ⟨sa, sn, sc, We, hr9, hI2, o9, f9, -⟩ := hId.run (xv := .slice (some ⟨nb, 0, none⟩) 1 1) (m := 1) (L2 := [⟨a8, n, c8, true⟩]) (S2 := [⟨n, true, (ws.take n).drop 1⟩])
      (Src.slice _ _ _ _ (by simp [rcells, rcell]) fun k u hu => by rw [Addr.add_lit]; exact cell_at hNd (by simpa using hu)) rfl
      (fun j y c h1 h2 => by
        cases j with
        | zero =>
          simp only [List.getElem?_cons_zero, Option.some.injEq] at h1 h2
          subst h1; subst h2
          exact ⟨rfl, rfl, ws.take n, hwn, SliceAt.turn s8 td (fun _ _ => id), fun _ => rfl⟩
        | succ j => simp at h1) (by have := HA.out.2.2.2.2.1; omega)
      (fun y hy k hk => by
        simp only [List.mem_singleton] at hy; subst hy
        have hk' : (Value.slice a8 n c8).ownBlock = some k := hk
        rw [o8] at hk'; cases hk'
        exact ⟨by omega, by have := HA.out.2.2.2.2.1; omega, fun e => by have := hvB _ e; omega⟩) (List.pairwise_singleton _ _)
      (fun y hy z hz k hk hk2 => by
        simp only [List.mem_singleton] at hz; subst hz
        have hk' : (Value.slice a8 n c8).ownBlock = some k := hk2
        rw [o8] at hk'; cases hk'
        have := HA.out.2.2.1 y (List.mem_of_mem_take hy) _ hk
        omega) (by rw [List.length_take]; simp; omega) 57
    have q4 : decide ((n : Int) ≤ (x.n : Int)) = true := by simp; omega
    have q5 : decide (n ≤ x.n) = true := by simp; omega
    have q6 : n ≤ x.cap := by omega
    have m0 : wB.cell? ⟨xb, 0, none⟩ = some (.slice x.a x.n x.cap) := (hI1.tn.cell (p := ⟨xb, 0, none⟩) (show ¬ (xb = ob ∨ xb + 1 ≤ xb) by omega) (by show xb < _; omega)).trans HA.out.2.2.2.2.2.2.2.1
    have ob0 : wB.cell? ⟨ob, 0, none⟩ = some (.slice ra rn rc) := hI1.oc
    have ob1 : Wc.cell? ⟨ob, 0, none⟩ = some (.slice ra rn rc) := hIc.oc
    have ob2 : Wd.cell? ⟨ob, 0, none⟩ = some (.slice ra rn rc) := hId.oc
    have HO8 := Lib.hid (show ∀ k, (Value.slice a8 n c8).ownBlock = some k → n0 < k from fun k hk => by rw [o8] at hk; cases hk; omega)
    have HI2 := Lib.hid hI2
    have HRR := Lib.hid (And.intro hr8 hr9)
    clear hI2 hr8 hr9 hIc hId hI1 hNd tc td s8 o8 b8 hwsB hwn hvB hz0 ho hzd
    refine wp_region_planG (aF := ?aF4) [6, 8, 9, 11] [[], [6], [6, 8], [6, 8, 9], [6, 8, 9, 11]] 4 [(0, 0, 0), (0, 1, 1), (0, 2, 2), (1, 0, 0), (1, 1, 1), (1, 2, 2), (2, 0, 0), (3, 0, 0), (4, 0, 0), (5, 0, 0), (6, 0, 1), (7, 1, 1), (8, 1, 2), (9, 2, 3), (10, 3, 3), (11, 3, 4)]
      [wB.drew, Wc, Wd, We, We.setCell ⟨ob, 0, none⟩ (.slice sa sn sc)]
      [.pointer (some ⟨ob, 0, none⟩), .slice ra rn rc, .pointer (some ⟨xb, 0, none⟩), .slice x.a x.n x.cap, .int .i64 n, .slice x.a n x.cap, .slice a8 n c8, .agg #[.slice a8 n c8, .bool true], .slice (some ⟨nb, 0, none⟩) 1 1, .slice sa sn sc, .pointer (some ⟨ob, 0, none⟩), undef]
      (by kernel_rfl) (by kernel_rfl) ?hF4 rfl rfl rfl ?hob4 ?hend4
    case hF4 => simp only [putAll, Act.put]; go_simp; rfl
    case hob4 =>
      repeat' (first
        | exact oblsG_nil
        | (refine oblsG_cons rfl rfl rfl ?_ ?_)
        | exact Runs.value rfl rfl rfl
        | exact Runs.append rfl _ _ _ _ rfl _ _ _ rfl rfl HRR.out.1 rfl
        | exact Runs.append rfl _ _ _ _ rfl _ _ _ rfl rfl HRR.out.2 rfl
        | (apply Runs.skip rfl rfl; (focus (go_simp; try exact rfl)); exact rfl)
        | (apply Runs.value rfl; (focus (go_simp; try exact rfl)); exact rfl))
    case hend4 =>
      obtain ⟨wC, hwC⟩ : ∃ wC, We.setCell ⟨ob, 0, none⟩ (.slice sa sn sc) = wC := ⟨_, rfl⟩
      rw [hwC]
      have hI2 := HI2.out
      rw [hwC] at hI2
      clear HI2 HRR hwC hnb hWd m0 ob0 ob1 ob2 o9 f9
      have ho := HA.out.2.2.2.2.2.1
      have m0 : wC.cell? ⟨xb, 0, none⟩ = some (.slice x.a x.n x.cap) := (hI2.tn.cell (p := ⟨xb, 0, none⟩) (show ¬ (xb = ob ∨ xb + 1 ≤ xb) by omega) (by show xb < _; have := HA.out.2.2.2.2.2.1; omega)).trans HA.out.2.2.2.2.2.2.2.1
      have HI2 := Lib.hid hI2
      clear hI2 ho
      rcases gt_facts n x.n with ⟨hgt, g1, g2⟩ | ⟨hgt, g1, g2⟩
      · have hrest : rest b.size n = [hole (b.size - n)] := by unfold rest; rw [if_neg (by have := H.out.2.2.2.2.2.2.1; omega)]
        have HRE := Lib.hid hrest
        clear hrest
        go_upto_region 6 with fail
        have hI2 := HI2.out
        have hz0 := hI2.big
        have ho := HA.out.2.2.2.2.2.1
        have ob0 : wC.cell? ⟨ob, 0, none⟩ = some (.slice sa sn sc) := hI2.oc
        obtain ⟨z, hz⟩ : ∃ z, x.n - n = z := ⟨_, rfl⟩
        have e1 : (x.n : Int) - (n : Int) = (z : Int) := by omega
        have e2 : IntKind.i64.wrap ((x.n : Int) - (n : Int)) = (z : Int) := (IntWalk.i64_in _ (by omega)).trans e1
        have e3 : wrap64 ((x.n : Int) - (n : Int)) = (z : Int) := by unfold wrap64; omega
        have HZ := Lib.hid (And.intro hz (show z ≤ 100000 by omega))
        obtain ⟨Wc, hWc⟩ : ∃ Wc, wC.drew.alloc (.cells (icells (zeros z)).toArray 3) = Wc := ⟨_, rfl⟩
        obtain ⟨Wd, hWd⟩ : ∃ Wd, Wc.alloc (.cells #[.slice (some ⟨wC.heap.size, 0, none⟩) z z, .bool false] 108) = Wd := ⟨_, rfl⟩
        have tc : Turn (fun _ => False) wC Wc := by rw [← hWc]; exact ((Turn.refl (fun _ => False) wC).drew).alloc _
        have td : Turn (fun _ => False) Wc Wd := by rw [← hWd]; exact (Turn.refl (fun _ => False) Wc).alloc _
        have hzc : Wc.heap.size = wC.heap.size + 1 := by rw [← hWc]; simp
        have hnew : Wc.heap[wC.heap.size]? = some (.cells (icells (zeros z)).toArray 3 (0, 0)) := by rw [← hWc]; exact heap_alloc_new wC.drew _
        have hIc := hI2.more tc
        have hId := hIc.more td
        obtain ⟨nb, hnb⟩ : ∃ nb, Wc.heap.size = nb := ⟨_, rfl⟩
        have hNd : Wd.heap[nb]? = some (.cells (rcells [⟨some ⟨wC.heap.size, 0, none⟩, z, z, false⟩]).toArray 108 (0, 0)) := by rw [← hWd, ← hnb]; exact heap_alloc_new Wc _
        obtain ⟨ta, tn, tc', We, hr9, hI3, o9, f9, -⟩ := hId.run (xv := .slice (some ⟨nb, 0, none⟩) 1 1) (m := 1) (L2 := [⟨some ⟨wC.heap.size, 0, none⟩, z, z, false⟩]) (S2 := [hole (b.size - n)])
          (Src.slice _ _ _ _ (by simp [rcells, rcell]) fun k u hu => by rw [Addr.add_lit]; exact cell_at hNd (by simpa using hu)) rfl
          (fun j y c h1 h2 => by
            cases j with
            | zero =>
              simp only [List.getElem?_cons_zero, Option.some.injEq] at h1 h2
              subst h1; subst h2
              refine ⟨?_, rfl, zeros z, ?_, SliceAt.turn (w := Wc) ?_ td (fun _ _ => id), fun e => by simp [hole] at e⟩
              · show z = b.size - n; have := H.out.2.2.2.2.2.2.1; omega
              · show (zeros z).length = b.size - n; have := H.out.2.2.2.2.2.2.1; simp [zeros]; omega
              · have := SliceAt.made (sz := 1) hnew (n := z) (by simp [zeros]) (by unfold maxLen; omega)
                simpa [RN.val] using this
            | succ j => simp at h1) (by have := HA.out.2.2.2.2.1; omega)
          (fun y hy k hk => by
            simp only [List.mem_singleton] at hy; subst hy
            simp only [RN.val, Value.ownBlock, Option.some.injEq] at hk
            subst hk
            exact ⟨by omega, by have := HA.out.2.2.2.2.1; omega, fun e => by have := SliceAt.lt hI2.rc.ref _ e; omega⟩) (List.pairwise_singleton _ _)
          (fun y hy q hq k hk hk2 => by
            simp only [List.mem_singleton] at hq; subst hq
            simp only [RN.val, Value.ownBlock, Option.some.injEq] at hk2
            subst hk2
            have := hI2.rc.blt y hy _ hk
            omega) (by simp only [List.length_append, List.length_take, List.length_singleton]; omega) 57
        have ob1 : Wc.cell? ⟨ob, 0, none⟩ = some (.slice sa sn sc) := hIc.oc
        have ob2 : Wd.cell? ⟨ob, 0, none⟩ = some (.slice sa sn sc) := hId.oc
        have m1 : Wc.cell? ⟨xb, 0, none⟩ = some (.slice x.a x.n x.cap) := (tc.cell (p := ⟨xb, 0, none⟩) id (by show xb < _; omega)).trans m0
        have m2 : Wd.cell? ⟨xb, 0, none⟩ = some (.slice x.a x.n x.cap) := (td.cell (p := ⟨xb, 0, none⟩) id (by show xb < _; omega)).trans m1
        have HWC := Lib.hid (show n0 < wC.heap.size by omega)
        have HI3 := Lib.hid hI3
        have HRR := Lib.hid (And.intro hr9 hWc)
        clear hI3 hr9 hIc hId hI2 hNd tc td hz0 ho hnew hzc hWc hz e1
        refine wp_region_planG (aF := ?aF6) [7, 9, 10, 12] [[], [7], [7, 9], [7, 9, 10], [7, 9, 10, 12]] 4 [(0, 0, 0), (0, 1, 1), (0, 2, 2), (1, 0, 0), (1, 1, 1), (1, 2, 2), (2, 0, 0), (2, 1, 1), (2, 2, 2), (2, 3, 3), (3, 0, 0), (4, 0, 0), (5, 0, 0), (6, 0, 0), (7, 0, 1), (8, 1, 1), (9, 1, 2), (10, 2, 3), (11, 3, 3), (12, 3, 4)]
          [wC.drew, Wc, Wd, We, We.setCell ⟨ob, 0, none⟩ (.slice ta tn tc')]
          [.pointer (some ⟨ob, 0, none⟩), .slice sa sn sc, .pointer (some ⟨xb, 0, none⟩), .slice x.a x.n x.cap, .int .i64 x.n, .int .i64 n, .int .i64 z, .slice (some ⟨wC.heap.size, 0, none⟩) z z, .agg #[.slice (some ⟨wC.heap.size, 0, none⟩) z z, .bool false], .slice (some ⟨nb, 0, none⟩) 1 1, .slice ta tn tc', .pointer (some ⟨ob, 0, none⟩), undef]
          (by kernel_rfl) (by kernel_rfl) ?hF6 rfl rfl rfl ?hob6 ?hend6
        case hF6 => simp only [putAll, Act.put]; go_simp; rfl
        case hob6 =>
          repeat' (first
            | exact oblsG_nil
            | (refine oblsG_cons rfl rfl rfl ?_ ?_)
            | exact Runs.value rfl rfl rfl
            | exact Runs.append rfl _ _ _ _ rfl _ _ _ rfl rfl HRR.out.1 rfl
            | (apply Runs.skip rfl rfl; (focus (go_simp; try exact rfl)); exact rfl)
            | (apply Runs.value rfl; (focus (go_simp; try exact rfl)); exact rfl)
            | (apply Runs.value rfl; (focus (go_simp; rw [make_ints (z : Int) z rfl HZ.out.2 wC.drew, HRR.out.2]; try exact rfl)); exact rfl))
        case hend6 =>
          obtain ⟨wD, hwD⟩ : ∃ wD, We.setCell ⟨ob, 0, none⟩ (.slice ta tn tc') = wD := ⟨_, rfl⟩
          rw [hwD]
          have hI3 := HI3.out
          rw [hwD] at hI3
          have HI3 := Lib.hid hI3
          clear hI3 HRR hwD hnb hWd m0 m1 m2 ob0 ob1 ob2 o9 f9 HZ e2 e3
          go_upto_region 7 with fail
          have hIx := HI3.out
          have hzx := hIx.big
          have ho := HA.out.2.2.2.2.2.1
          have sx0 : wD.cell? ⟨n0, 0, none⟩ = some (.slice (some ⟨bb, off, none⟩) L.length cap) := (hIx.tn.cell (p := ⟨n0, 0, none⟩) (show ¬ (n0 = ob ∨ xb + 1 ≤ n0) by omega) (by show n0 < _; omega)).trans HA.out.2.2.2.2.2.2.1
          have ox0 : wD.cell? ⟨ob, 0, none⟩ = some (.slice ta tn tc') := hIx.oc
          have hRX : RC wD.drew (.slice (some ⟨bb, off, none⟩) L.length cap) L S := (HA.out.2.1.turn hIx.tn (fun k hk => by have h3 := SliceAt.lt H.out.1.ref k hk; omega) (fun y hy k hk => by have h3 := HA.out.2.2.1 y hy k hk; omega)).drew
          obtain ⟨ya, hya⟩ : ∃ ya, (if cap = i + 1 then some (⟨bb, off, none⟩ : Addr) else some ⟨bb, off + (i + 1) * 2, none⟩) = ya := ⟨_, rfl⟩
          have hsl : SliceAt wD.drew 108 2 (.slice ya (L.length - (i + 1)) (cap - (i + 1))) (rcells (L.drop (i + 1))) := by
            by_cases hcap : cap = i + 1
            · have h1 := SliceAt.empty hRX.ref
              rw [← hya, if_pos hcap, show L.length - (i + 1) = 0 by omega, show cap - (i + 1) = 0 by omega, List.drop_of_length_le (by omega)]
              exact h1
            · have h1 := SliceAt.drop hRX.ref (i + 1) (by omega)
              rw [rcells_drop] at h1
              rw [← hya, if_neg hcap]
              exact h1
          obtain ⟨ym, hym⟩ : ∃ ym, L.length - (i + 1) = ym := ⟨_, rfl⟩
          obtain ⟨yc, hyc⟩ : ∃ yc, cap - (i + 1) = yc := ⟨_, rfl⟩
          rw [hym, hyc] at hsl
          have hyb : 0 ≤ (i : Int) + 1 ∧ (i : Int) + 1 ≤ (L.length : Int) := by omega
          obtain ⟨ua, un, uc, Wz, hr7, hI7, o7, f7, -⟩ := (hIx.more ((Turn.refl (fun _ => False) wD).drew)).run (Src.of_slice hsl) (S2 := S.drop (i + 1)) (by rw [List.length_drop, List.length_drop, H.out.1.len]) (fun j y c h1 h2 => by
              rw [List.getElem?_drop] at h1 h2
              exact hRX.blk _ y c h1 h2) (by have := HA.out.2.2.2.2.1; omega) (fun y hy k hk => by
              have h1 := HA.out.2.2.1 y (List.mem_of_mem_drop hy) k hk
              exact ⟨by omega, H.out.2.1.1 y (List.mem_of_mem_drop hy) k hk, fun e => by have := hIx.vl k e; omega⟩) (H.out.2.1.2.sublist (List.drop_sublist (i + 1) L)) (fun y hy q hq k hk hk2 => by
              have h2 := HA.out.2.2.1 q (List.mem_of_mem_drop hq) k hk2
              rcases List.mem_append.1 hy with hy | hy
              · rcases List.mem_append.1 hy with hy | hy
                · exact take_drop_apart H.out.2.1.2 hy hq k hk hk2
                · simp only [List.mem_singleton] at hy; subst hy
                  have h1 := HO8.out k hk
                  omega
              · simp only [List.mem_singleton] at hy; subst hy
                simp only [RN.val, Value.ownBlock, Option.some.injEq] at hk
                have h1 := HWC.out
                omega) (by simp only [List.length_append, List.length_take, List.length_singleton, List.length_drop]; omega) 57
          have w1 : IntKind.i64.wrap ((i : Int) + 1) = ((i + 1 : Nat) : Int) := (IntWalk.i64_in _ (by omega)).trans (by omega)
          have w2 : wrap64 ((i : Int) + 1) = ((i + 1 : Nat) : Int) := by unfold wrap64; omega
          have HI7 := Lib.hid hI7
          have HR7 := Lib.hid (And.intro hr7 (And.intro hya (And.intro hym (And.intro hyc hyb))))
          clear hI7 hr7 hsl hya hyc hyb hRX hIx hym hzx ho
          refine wp_region_planG (aF := ?aF7a) [7, 9] [[], [7], [7, 9]] 2 [(0, 0, 0), (1, 0, 0), (2, 0, 0), (3, 0, 0), (4, 0, 0), (5, 0, 0), (6, 0, 0), (7, 0, 1), (8, 1, 1), (9, 1, 2)]
            [wD.drew, Wz, Wz.setCell ⟨ob, 0, none⟩ (.slice ua un uc)]
            [.pointer (some ⟨ob, 0, none⟩), .slice ta tn tc', .pointer (some ⟨n0, 0, none⟩), .slice (some ⟨bb, off, none⟩) L.length cap, .int .i64 i, .int .i64 ((i + 1 : Nat) : Int), .slice ya ym yc, .slice ua un uc, .pointer (some ⟨ob, 0, none⟩), undef]
            (by kernel_rfl) (by kernel_rfl) ?hF7a rfl rfl rfl ?hob7a ?hend7a
          case hF7a => simp only [putAll, Act.put]; go_simp; rfl
          case hob7a =>
            repeat' (first
              | exact oblsG_nil
              | (refine oblsG_cons rfl rfl rfl ?_ ?_)
              | exact Runs.value rfl rfl rfl
              | exact Runs.append rfl _ _ _ _ rfl _ _ _ rfl rfl HR7.out.1 rfl
              | (apply Runs.skip rfl rfl; (focus (go_simp; try exact rfl)); exact rfl)
              | (apply Runs.value rfl; (focus (go_simp; try exact rfl)); exact rfl)
              | (apply Runs.value rfl; (focus (go_simp; rw [if_pos HR7.out.2.2.2.2, HR7.out.2.1, HR7.out.2.2.1, HR7.out.2.2.2.1]; try exact rfl)); exact rfl))
          case hend7a =>
            obtain ⟨wF, hwF⟩ : ∃ wF, Wz.setCell ⟨ob, 0, none⟩ (.slice ua un uc) = wF := ⟨_, rfl⟩
            rw [hwF]
            have hI := HI7.out
            rw [hwF] at hI
            clear HI7 HR7 hwF o7 f7 sx0 ox0
            have ho := HA.out.2.2.2.2.2.1
            have hz := hI.big
            have of0 : wF.cell? ⟨ob, 0, none⟩ = some (.slice ua un uc) := hI.oc
            have hj := rjoined_calls hI.rc hI.sep.ap (by have := HA.out.2.2.2.2.1; omega) (Nat.le_trans (Nat.le_of_eq (split_sz2 H.out.2.2.2.2.2.1 (by have := H.out.2.2.2.2.2.2.1; omega))) H.out.2.2.2.1) (split_len2 _ _ _ _ (by rw [← H.out.1.len]; exact hll))
            have heq : S.take i ++ [⟨n, true, (ws.take n).drop 1⟩] ++ [hole (b.size - n)] ++ S.drop (i + 1) = S.take i ++ ⟨n, true, (ws.take n).drop 1⟩ :: (rest b.size n ++ S.drop (i + 1)) := by rw [HRE.out]; exact list_eq2 _ _ _ _
            rw [heq, HT.out] at hj
            have r0 : wF.heap[rb]? = wA.heap[rb]? := hI.tn.block rb (by omega) (by omega)
            have HJ := Lib.hid hj
            have HE := Lib.hid (And.intro hI r0)
            clear hj heq hI r0 hz ho
            go_wp2_with fail
            refine HJ.out.mono ?_
            rintro e wG ⟨v, LG, rfl, hRG, hSG, hVG, hBG⟩
            obtain ⟨ga, gn, gc, rfl, -⟩ := SliceAt.form hRG.ref
            have ho := HA.out.2.2.2.2.2.1
            have hz := HE.out.1.big
            have hr : wG.heap[rb]? = wA.heap[rb]? := (hBG.block rb (by omega)).trans HE.out.2
            have c0 : wG.cell? ⟨rb, 0, none⟩ = some (.slice none 0 0) := by rw [← HA.out.2.2.2.2.2.2.2.2.1]; simp [World.cell?, hr]
            have c1 : wG.frozen? ⟨rb, 0, none⟩ = false := by rw [← HA.out.2.2.2.2.2.2.2.2.2.1]; simp [World.frozen?, hr]
            have hblk := HA.out.2.2.2.2.2.2.2.2.2.2.2
            have HG := Lib.hid (And.intro hRG (And.intro hSG (And.intro hVG (And.intro hBG (And.intro ho (And.intro hz (hr.trans hblk)))))))
            clear hRG hSG hVG hBG ho hz hr hblk of0
            go_wp2
            (try simp only [Exit.inBlock, Exit.then]); refine bodyPost_ret (res_c (v := .slice ga gn gc) rfl _ _ rfl (World.cell?_setCell_same' _ _ _ (by rw [c0]; rfl))) rfl ?_
            obtain ⟨p1, p2, p3, p4, ho, hz, hr⟩ := HG.out
            have t : Turn (fun k => k = rb) wG (wG.setCell ⟨rb, 0, none⟩ (.slice ga gn gc)) := (Turn.refl (fun k => k = rb) wG).setCell (p := ⟨rb, 0, none⟩) (fun _ => rfl) _
            refine ⟨.slice ga gn gc, LG, rfl, p1.turn t (fun k hk e => by have := p3 k hk; omega) (fun y hy k hk e => ?_), p2, fun k hk => by have := p3 k hk; omega, ?_⟩
            · obtain ⟨q, hq⟩ := List.mem_iff_getElem?.1 hy
              obtain ⟨c, -, -, -, ws', -, hsl, -⟩ := p1.get hq
              exact absurd (hsl.elem hk (by rw [e]; exact hr)) (by decide)
            · have h0 := HA.out.2.2.2.2.2.2.2.2.2.2.1
              have h1 : Below n0 wA wF := ⟨HE.out.1.tn.os, HE.out.1.tn.tape, HE.out.1.tn.output, HE.out.1.tn.size, fun k hk => HE.out.1.tn.block k (by omega) (by omega)⟩
              rw [ho.2.2.2.2]
              exact ((h0.trans h1).trans (p4.mono (by omega))).setCell (p := ⟨rb, 0, none⟩) (by show n0 ≤ rb; omega) _
      · have hrest : rest b.size n = [] := by unfold rest; rw [if_pos (by have := H.out.2.2.2.2.2.2.1; omega)]
        have HRE := Lib.hid hrest
        clear hrest
        go_upto_region 7 with fail
        have hIx := HI2.out
        have hzx := hIx.big
        have ho := HA.out.2.2.2.2.2.1
        have sx0 : wC.cell? ⟨n0, 0, none⟩ = some (.slice (some ⟨bb, off, none⟩) L.length cap) := (hIx.tn.cell (p := ⟨n0, 0, none⟩) (show ¬ (n0 = ob ∨ xb + 1 ≤ n0) by omega) (by show n0 < _; omega)).trans HA.out.2.2.2.2.2.2.1
        have ox0 : wC.cell? ⟨ob, 0, none⟩ = some (.slice sa sn sc) := hIx.oc
        have hRX : RC wC.drew (.slice (some ⟨bb, off, none⟩) L.length cap) L S := (HA.out.2.1.turn hIx.tn (fun k hk => by have h3 := SliceAt.lt H.out.1.ref k hk; omega) (fun y hy k hk => by have h3 := HA.out.2.2.1 y hy k hk; omega)).drew
        obtain ⟨ya, hya⟩ : ∃ ya, (if cap = i + 1 then some (⟨bb, off, none⟩ : Addr) else some ⟨bb, off + (i + 1) * 2, none⟩) = ya := ⟨_, rfl⟩
        have hsl : SliceAt wC.drew 108 2 (.slice ya (L.length - (i + 1)) (cap - (i + 1))) (rcells (L.drop (i + 1))) := by
          by_cases hcap : cap = i + 1
          · have h1 := SliceAt.empty hRX.ref
            rw [← hya, if_pos hcap, show L.length - (i + 1) = 0 by omega, show cap - (i + 1) = 0 by omega, List.drop_of_length_le (by omega)]
            exact h1
          · have h1 := SliceAt.drop hRX.ref (i + 1) (by omega)
            rw [rcells_drop] at h1
            rw [← hya, if_neg hcap]
            exact h1
        obtain ⟨ym, hym⟩ : ∃ ym, L.length - (i + 1) = ym := ⟨_, rfl⟩
        obtain ⟨yc, hyc⟩ : ∃ yc, cap - (i + 1) = yc := ⟨_, rfl⟩
        rw [hym, hyc] at hsl
        have hyb : 0 ≤ (i : Int) + 1 ∧ (i : Int) + 1 ≤ (L.length : Int) := by omega
        obtain ⟨ua, un, uc, Wz, hr7, hI7, o7, f7, -⟩ := (hIx.more ((Turn.refl (fun _ => False) wC).drew)).run (Src.of_slice hsl) (S2 := S.drop (i + 1)) (by rw [List.length_drop, List.length_drop, H.out.1.len]) (fun j y c h1 h2 => by
            rw [List.getElem?_drop] at h1 h2
            exact hRX.blk _ y c h1 h2) (by have := HA.out.2.2.2.2.1; omega) (fun y hy k hk => by
            have h1 := HA.out.2.2.1 y (List.mem_of_mem_drop hy) k hk
            exact ⟨by omega, H.out.2.1.1 y (List.mem_of_mem_drop hy) k hk, fun e => by have := hIx.vl k e; omega⟩) (H.out.2.1.2.sublist (List.drop_sublist (i + 1) L)) (fun y hy q hq k hk hk2 => by
            rcases List.mem_append.1 hy with hy | hy
            · exact take_drop_apart H.out.2.1.2 hy hq k hk hk2
            · simp only [List.mem_singleton] at hy; subst hy
              have h1 := HO8.out k hk
              have h2 := HA.out.2.2.1 q (List.mem_of_mem_drop hq) k hk2
              omega) (by simp only [List.length_append, List.length_take, List.length_singleton, List.length_drop]; omega) 57
        have w1 : IntKind.i64.wrap ((i : Int) + 1) = ((i + 1 : Nat) : Int) := (IntWalk.i64_in _ (by omega)).trans (by omega)
        have w2 : wrap64 ((i : Int) + 1) = ((i + 1 : Nat) : Int) := by unfold wrap64; omega
        have HI7 := Lib.hid hI7
        have HR7 := Lib.hid (And.intro hr7 (And.intro hya (And.intro hym (And.intro hyc hyb))))
        clear hI7 hr7 hsl hya hyc hyb hRX hIx hym hzx ho
        refine wp_region_planG (aF := ?aF7b) [7, 9] [[], [7], [7, 9]] 2 [(0, 0, 0), (1, 0, 0), (2, 0, 0), (3, 0, 0), (4, 0, 0), (5, 0, 0), (6, 0, 0), (7, 0, 1), (8, 1, 1), (9, 1, 2)]
          [wC.drew, Wz, Wz.setCell ⟨ob, 0, none⟩ (.slice ua un uc)]
          [.pointer (some ⟨ob, 0, none⟩), .slice sa sn sc, .pointer (some ⟨n0, 0, none⟩), .slice (some ⟨bb, off, none⟩) L.length cap, .int .i64 i, .int .i64 ((i + 1 : Nat) : Int), .slice ya ym yc, .slice ua un uc, .pointer (some ⟨ob, 0, none⟩), undef]
          (by kernel_rfl) (by kernel_rfl) ?hF7b rfl rfl rfl ?hob7b ?hend7b
        case hF7b => simp only [putAll, Act.put]; go_simp; rfl
        case hob7b =>
          repeat' (first
            | exact oblsG_nil
            | (refine oblsG_cons rfl rfl rfl ?_ ?_)
            | exact Runs.value rfl rfl rfl
            | exact Runs.append rfl _ _ _ _ rfl _ _ _ rfl rfl HR7.out.1 rfl
            | (apply Runs.skip rfl rfl; (focus (go_simp; try exact rfl)); exact rfl)
            | (apply Runs.value rfl; (focus (go_simp; try exact rfl)); exact rfl)
            | (apply Runs.value rfl; (focus (go_simp; rw [if_pos HR7.out.2.2.2.2, HR7.out.2.1, HR7.out.2.2.1, HR7.out.2.2.2.1]; try exact rfl)); exact rfl))
        case hend7b =>
          obtain ⟨wF, hwF⟩ : ∃ wF, Wz.setCell ⟨ob, 0, none⟩ (.slice ua un uc) = wF := ⟨_, rfl⟩
          rw [hwF]
          have hI := HI7.out
          rw [hwF] at hI
          clear HI7 HR7 hwF o7 f7 sx0 ox0
          have ho := HA.out.2.2.2.2.2.1
          have hz := hI.big
          have of0 : wF.cell? ⟨ob, 0, none⟩ = some (.slice ua un uc) := hI.oc
          have hj := rjoined_calls hI.rc hI.sep.ap (by have := HA.out.2.2.2.2.1; omega) (Nat.le_trans (Nat.le_of_eq (split_sz1 H.out.2.2.2.2.2.1 (by have := H.out.2.2.2.2.2.2.1; omega))) H.out.2.2.2.1) (split_len1 _ _ _ (by rw [← H.out.1.len]; exact hll))
          have heq : S.take i ++ [⟨n, true, (ws.take n).drop 1⟩] ++ S.drop (i + 1) = S.take i ++ ⟨n, true, (ws.take n).drop 1⟩ :: (rest b.size n ++ S.drop (i + 1)) := by rw [HRE.out]; exact list_eq1 _ _ _
          rw [heq, HT.out] at hj
          have r0 : wF.heap[rb]? = wA.heap[rb]? := hI.tn.block rb (by omega) (by omega)
          have HJ := Lib.hid hj
          have HE := Lib.hid (And.intro hI r0)
          clear hj heq hI r0 hz ho
          go_wp2_with fail
          refine HJ.out.mono ?_
          rintro e wG ⟨v, LG, rfl, hRG, hSG, hVG, hBG⟩
          obtain ⟨ga, gn, gc, rfl, -⟩ := SliceAt.form hRG.ref
          have ho := HA.out.2.2.2.2.2.1
          have hz := HE.out.1.big
          have hr : wG.heap[rb]? = wA.heap[rb]? := (hBG.block rb (by omega)).trans HE.out.2
          have c0 : wG.cell? ⟨rb, 0, none⟩ = some (.slice none 0 0) := by rw [← HA.out.2.2.2.2.2.2.2.2.1]; simp [World.cell?, hr]
          have c1 : wG.frozen? ⟨rb, 0, none⟩ = false := by rw [← HA.out.2.2.2.2.2.2.2.2.2.1]; simp [World.frozen?, hr]
          have hblk := HA.out.2.2.2.2.2.2.2.2.2.2.2
          have HG := Lib.hid (And.intro hRG (And.intro hSG (And.intro hVG (And.intro hBG (And.intro ho (And.intro hz (hr.trans hblk)))))))
          clear hRG hSG hVG hBG ho hz hr hblk of0
          go_wp2
          (try simp only [Exit.inBlock, Exit.then]); refine bodyPost_ret (res_c (v := .slice ga gn gc) rfl _ _ rfl (World.cell?_setCell_same' _ _ _ (by rw [c0]; rfl))) rfl ?_
          obtain ⟨p1, p2, p3, p4, ho, hz, hr⟩ := HG.out
          have t : Turn (fun k => k = rb) wG (wG.setCell ⟨rb, 0, none⟩ (.slice ga gn gc)) := (Turn.refl (fun k => k = rb) wG).setCell (p := ⟨rb, 0, none⟩) (fun _ => rfl) _
          refine ⟨.slice ga gn gc, LG, rfl, p1.turn t (fun k hk e => by have := p3 k hk; omega) (fun y hy k hk e => ?_), p2, fun k hk => by have := p3 k hk; omega, ?_⟩
          · obtain ⟨q, hq⟩ := List.mem_iff_getElem?.1 hy
            obtain ⟨c, -, -, -, ws', -, hsl, -⟩ := p1.get hq
            exact absurd (hsl.elem hk (by rw [e]; exact hr)) (by decide)
          · have h0 := HA.out.2.2.2.2.2.2.2.2.2.2.1
            have h1 : Below n0 wA wF := ⟨HE.out.1.tn.os, HE.out.1.tn.tape, HE.out.1.tn.output, HE.out.1.tn.size, fun k hk => HE.out.1.tn.block k (by omega) (by omega)⟩
            rw [ho.2.2.2.2]
            exact ((h0.trans h1).trans (p4.mono (by omega))).setCell (p := ⟨rb, 0, none⟩) (by show n0 ≤ rb; omega) _
end Go.Sto
