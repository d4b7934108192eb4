/-
  The reference's joined, walked.
-/
import Derived.Test.YtahfoejffibahaaQStoRFind
set_option linter.unusedVariables false

namespace Go.Sto
open Go.Own Go.RowKit Go.Proofs

/-- A block behind others: joined with the last one where both are free. -/
def joinL (O : St) (b : Blk) : St :=
  match O.getLast? with
  | none => [b]
  | some c => if b.used = false ∧ c.used = false then O.dropLast ++ [hole (c.size + b.size)] else O ++ [b]

theorem joinL_nil (b : Blk) : joinL [] b = [b] := rfl
theorem joinL_snoc (O : St) (c b : Blk) : joinL (O ++ [c]) b = if b.used = false ∧ c.used = false then O ++ [hole (c.size + b.size)] else O ++ [c] ++ [b] := by
  unfold joinL; simp

theorem add_add (c b : Blk) (T : St) (hc : c.used = false) (hb : b.used = false) : add c (add b T) = add (hole (c.size + b.size)) T := by
  cases T with
  | nil => simp [add, hc, hb]
  | cons d r =>
    by_cases hd : d.used = false
    · simp [add, hc, hb, hd, hole, Nat.add_assoc]
    · simp [add, hc, hb, hd, hole]

theorem fuse_join (O : St) (b : Blk) (T : St) : fuse (joinL O b ++ T) = fuse (O ++ b :: T) := by
  rcases List.eq_nil_or_concat O with rfl | ⟨O', c, rfl⟩
  · rfl
  · rw [List.concat_eq_append, joinL_snoc]
    split
    · rename_i h
      have e1 : fuse (O' ++ [hole (c.size + b.size)] ++ T) = List.foldr add (add (hole (c.size + b.size)) (fuse T)) O' := by rw [List.append_assoc, fuse_append]; rfl
      have e2 : fuse (O' ++ [c] ++ b :: T) = List.foldr add (add c (add b (fuse T))) O' := by rw [List.append_assoc, fuse_append]; rfl
      rw [e1, e2, add_add c b (fuse T) h.2 h.1]
    · simp [List.append_assoc]
theorem norm_join {O : St} (h : Norm O) (b : Blk) : Norm (joinL O b) := by
  rcases List.eq_nil_or_concat O with rfl | ⟨O', c, rfl⟩
  · exact trivial
  · rw [List.concat_eq_append] at h ⊢
    rw [joinL_snoc]
    obtain ⟨h1, h2, h3⟩ := norm_append.1 h
    split
    · rename_i hh
      refine norm_append.2 ⟨h1, trivial, fun A' x y B' e1 e2 => ?_⟩
      have := h3 A' x c [] e1 rfl
      simp only [List.cons.injEq] at e2
      obtain ⟨rfl, -⟩ := e2
      intro q
      exact this ⟨q.1, hh.2⟩
    · rename_i hh
      refine norm_append.2 ⟨h, trivial, fun A' x y B' e1 e2 => ?_⟩
      simp only [List.cons.injEq] at e2
      obtain ⟨rfl, -⟩ := e2
      have e := List.append_inj' e1 rfl
      simp only [List.cons.injEq, and_true] at e
      obtain ⟨-, rfl⟩ := e
      intro q
      exact hh ⟨q.2, q.1⟩
theorem foldl_join : ∀ (S O : St), Norm O → S.foldl joinL O = fuse (O ++ S)
  | [], O, h => by rw [List.append_nil, fuse_norm h]; rfl
  | b :: S, O, h => by
    rw [List.foldl_cons, foldl_join S _ (norm_join h b), fuse_join]
theorem joins (S : St) : S.foldl joinL [] = fuse S := foldl_join S [] trivial

theorem foldl_take {S : St} {j : Nat} {b : Blk} (hb : S[j]? = some b) : (S.take (j + 1)).foldl joinL [] = joinL ((S.take j).foldl joinL []) b := by
  rw [List.take_add_one, hb, List.foldl_append]; rfl
theorem joins_sz (S : St) : sz (S.foldl joinL []) = sz S := by rw [joins, sz_fuse]

theorem wrap_sum' (z c : Nat) (h : z + c ≤ 1000000) : IntKind.i64.wrap ((z : Int) + (c : Int)) = (z : Int) + (c : Int) ∧ wrap64 ((z : Int) + (c : Int)) = (z : Int) + (c : Int) := ⟨IntWalk.i64_in _ (by omega), by unfold wrap64; omega⟩

/-- What a round of joined leaves. -/
structure JnI (w1 : World) (n0 N : Nat) (L : List RN) (S : St) (j : Nat) (wx : World) (v : Value) (L' : List RN) : Prop where
  oc : wx.cell? ⟨n0 + 2, 0, none⟩ = some v
  fr : wx.frozen? ⟨n0 + 2, 0, none⟩ = false
  rc : RC wx v L' ((S.take j).foldl joinL [])
  sep : Sep N v L'
  vl : ∀ k, v.ownBlock = some k → n0 + 3 ≤ k
  cr : ∀ y ∈ L', ∀ z ∈ L.drop j, ∀ k, y.val.ownBlock = some k → z.val.ownBlock ≠ some k
  bel : Below (n0 + 2) w1 wx
  big : n0 + 3 ≤ wx.heap.size
  nb : ∀ y ∈ L', ∀ k, y.val.ownBlock = some k → k < n0 ∨ n0 + 3 ≤ k

/-- The words' blocks of a list: from N on, pairwise apart. -/
def Ap (N : Nat) (L : List RN) : Prop := (∀ x ∈ L, ∀ k, x.val.ownBlock = some k → N ≤ k) ∧ L.Pairwise fun x y => ∀ k, x.val.ownBlock = some k → y.val.ownBlock ≠ some k
theorem Sep.ap {N : Nat} {v : Value} {L : List RN} (h : Sep N v L) : Ap N L := ⟨h.lo, h.pw⟩

def RJoinPost (N : Nat) (T : St) (w : World) (e : Ending) (w' : World) : Prop :=
  ∃ v L, e = .returned (.agg #[v]) ∧ RC w' v L T ∧ Sep N v L ∧ (∀ k, v.ownBlock = some k → w.heap.size ≤ k) ∧ Below w.heap.size w w'

section
variable {w1 wr w' W1 W2 W3 : World} {n0 N j nb : Nat} {L L' : List RN} {S : St} {v v3 : Value} {x : RN} {b : Blk}

/-- A block came behind the others. -/
theorem JnI.push (h : JnI w1 n0 N L S j wr v L') (hx : L[j]? = some x) (hb : S[j]? = some b) (hbk : RBk wr x b) (hj : joinL ((S.take j).foldl joinL []) b = (S.take j).foldl joinL [] ++ [b])
    (hap : Ap N L) (hN : N ≤ n0 + 3) (hold : ∀ k, x.val.ownBlock = some k → k < n0) (t2 : Turn (fun _ => False) wr W2) (t3 : Turn (fun k => v.ownBlock = some k) W2 W3) (hs : SliceAt W3 108 2 v3 (rcells L' ++ rcell x)) (o3 : v3.ownBlock = v.ownBlock ∨ v3.ownBlock = some W2.heap.size) :
    JnI w1 n0 N L S (j + 1) (W3.setCell ⟨n0 + 2, 0, none⟩ v3) v3 (L' ++ [x]) := by
  have hbig := h.big
  have hz2 := t2.size
  have hz3 := t3.size
  have hd : L.drop j = x :: L.drop (j + 1) := by
    rw [List.drop_eq_getElem_cons (List.getElem?_eq_some_iff.1 hx).1]
    congr 1
    exact (List.getElem?_eq_some_iff.1 hx).2
  have hv2 : ¬ v.ownBlock = some (n0 + 2) := fun e => by have := h.vl _ e; omega
  have rc2 : RC W2 v L' ((S.take j).foldl joinL []) := h.rc.turn t2 (fun _ _ => id) (fun _ _ _ _ => id)
  have rc3 : RC W3 v3 (L' ++ [x]) ((S.take j).foldl joinL [] ++ [b]) := rc2.app t3 (by simpa [rcells] using hs) h.sep.nv rfl (fun i y b' h1 h2 => by
    cases i with
    | zero =>
      simp at h1 h2; subst h1; subst h2
      refine hbk.keep fun k hk => ?_
      have := hbk.lt k hk
      rw [t3.block k (by omega) (fun e => by have := h.vl k e; have := hold k hk; omega), t2.block k this id]
    | succ i => simp at h1)
  have hvl3 : ∀ k, v3.ownBlock = some k → n0 + 3 ≤ k := fun k hk => by
    rcases o3 with q | q
    · rw [q] at hk; exact h.vl k hk
    · rw [q] at hk; cases hk; omega
  have sep3 : Sep N v3 (L' ++ [x]) := h.sep.app (B := W2.heap.size) o3 (by omega) (fun y hy k hk => by have := rc2.blt y hy k hk; omega) (fun y hy k hk => by
      simp only [List.mem_singleton] at hy; subst hy
      have := hold k hk
      exact ⟨by omega, hap.1 _ (List.mem_of_getElem? hx) k hk, fun e => by have := h.vl k e; omega⟩) (List.pairwise_singleton _ _) (fun y hy z hz k hk hk2 => by
      simp only [List.mem_singleton] at hz; subst hz
      exact h.cr y hy z (by rw [hd]; simp) k hk hk2)
  have t4 : Turn (fun k => k = n0 + 2) W3 (W3.setCell ⟨n0 + 2, 0, none⟩ v3) := (Turn.refl (fun k => k = n0 + 2) W3).setCell (p := ⟨n0 + 2, 0, none⟩) (fun _ => rfl) _
  have hc3 : W3.cell? ⟨n0 + 2, 0, none⟩ = some v := (t3.cell (p := ⟨n0 + 2, 0, none⟩) hv2 (by show n0 + 2 < _; omega)).trans ((t2.cell (p := ⟨n0 + 2, 0, none⟩) id (by show n0 + 2 < _; omega)).trans h.oc)
  have hf3 : W3.frozen? ⟨n0 + 2, 0, none⟩ = false := (t3.frozen (p := ⟨n0 + 2, 0, none⟩) hv2 (by show n0 + 2 < _; omega)).trans ((t2.frozen (p := ⟨n0 + 2, 0, none⟩) id (by show n0 + 2 < _; omega)).trans h.fr)
  have hown : ∀ y ∈ L' ++ [x], ∀ k, y.val.ownBlock = some k → k ≠ n0 + 2 := fun y hy k hk e => by
    rcases List.mem_append.1 hy with hy | hy
    · have := h.nb y hy k hk; omega
    · simp only [List.mem_singleton] at hy; subst hy
      have := hold k hk; omega
  exact { oc := World.cell?_setCell_same' _ _ _ (by rw [hc3]; rfl), fr := by rw [World.frozen?_setCell]; exact hf3
          rc := by rw [foldl_take hb, hj]; exact rc3.turn t4 (fun k hk e => by have := hvl3 k hk; omega) hown
          sep := sep3, vl := hvl3
          cr := fun y hy z hz k hk => by
            rcases List.mem_append.1 hy with hy | hy
            · exact h.cr y hy z (by rw [hd]; exact List.mem_cons_of_mem _ hz) k hk
            · simp only [List.mem_singleton] at hy; subst hy
              have hp : (L.drop j).Pairwise _ := hap.2.sublist (List.drop_sublist j L)
              rw [hd] at hp
              exact (List.pairwise_cons.1 hp).1 z hz k hk
          bel := h.bel.trans ⟨by rw [t4.os, t3.os, t2.os], by rw [t4.tape, t3.tape, t2.tape], by rw [t4.output, t3.output, t2.output], by have := t4.size; omega, fun k hk => by
            rw [t4.block k (by omega) (by omega), t3.block k (by omega) (fun e => by have := h.vl k e; omega), t2.block k (by omega) id]⟩
          big := by have := t4.size; omega
          nb := fun y hy k hk => by
            rcases List.mem_append.1 hy with hy | hy
            · exact h.nb y hy k hk
            · simp only [List.mem_singleton] at hy; subst hy
              exact .inl (hold k hk) }

theorem rcells_set (P : List RN) (y : RN) (u : Value) : (rcells (P ++ [y])).set (P.length * 2) u = rcells P ++ [u, .bool y.u] := by
  rw [rcells_append, List.set_append_right _ _ (by rw [rcells_length]; exact Nat.le_refl _), rcells_length, Nat.sub_self]
  simp [rcells, rcell]

/-- A free block came behind a free one. -/
theorem JnI.merge {P : List RN} {y : RN} {c : Blk} {O : St} {g off m mc : Nat} {z : Nat} (h : JnI w1 n0 N L S j wr (.slice (some ⟨g, off, none⟩) m mc) (P ++ [y])) (hx : L[j]? = some x) (hb : S[j]? = some b) (hO : (S.take j).foldl joinL [] = O ++ [c])
    (hcf : c.used = false) (hbf : b.used = false) (hap : Ap N L) (hN : N ≤ n0 + 3) (hL : ∀ x ∈ L, ∀ k, x.val.ownBlock = some k → k < n0) (t2 : Turn (fun _ => False) wr W2) (hz : z = c.size + b.size) (hzb : z ≤ 100000)
    (hW3 : W2.drew.alloc (.cells (icells (zeros z)).toArray 3) = W3) :
    JnI w1 n0 N L S (j + 1) (W3.setCell ⟨g, off + P.length * 2, none⟩ (.slice (some ⟨W2.heap.size, 0, none⟩) z z)) (.slice (some ⟨g, off, none⟩) m mc) (P ++ [⟨some ⟨W2.heap.size, 0, none⟩, z, z, false⟩]) := by
  have hbig := h.big
  have hz2 := t2.size
  have t23 : Turn (fun _ => False) wr W3 := by rw [← hW3]; exact (t2.drew).alloc _
  have hz3 : W3.heap.size = W2.heap.size + 1 := by rw [← hW3]; simp
  have hnew : W3.heap[W2.heap.size]? = some (.cells (icells (zeros z)).toArray 3 (0, 0)) := by rw [← hW3]; exact heap_alloc_new W2.drew _
  have hg : n0 + 3 ≤ g := h.vl g rfl
  have hgl : g < wr.heap.size := SliceAt.lt h.rc.ref g rfl
  have hd : L.drop j = x :: L.drop (j + 1) := by
    rw [List.drop_eq_getElem_cons (List.getElem?_eq_some_iff.1 hx).1]
    congr 1
    exact (List.getElem?_eq_some_iff.1 hx).2
  have rc3 := h.rc.turn t23 (fun _ _ => id) (fun _ _ _ _ => id)
  have hlen : P.length = O.length := by have := h.rc.len; rw [hO] at this; simpa using this
  have t4 : Turn (fun k => k = g) W3 (W3.setCell ⟨g, off + P.length * 2, none⟩ (.slice (some ⟨W2.heap.size, 0, none⟩) z z)) := (Turn.refl (fun k => k = g) W3).setCell (p := ⟨g, off + P.length * 2, none⟩) (fun _ => rfl) _
  have hyu : y.u = false := by
    have := (h.rc.blk P.length y c (by simp) (by rw [hO, hlen]; simp)).2.1
    rw [this, hcf]
  have hs3 : SliceAt (W3.setCell ⟨g, off + P.length * 2, none⟩ (.slice (some ⟨W2.heap.size, 0, none⟩) z z)) 108 2 (.slice (some ⟨g, off, none⟩) m mc) (rcells (P ++ [⟨some ⟨W2.heap.size, 0, none⟩, z, z, false⟩])) := by
    have := SliceAt.set rc3.ref (P.length * 2) (.slice (some ⟨W2.heap.size, 0, none⟩) z z) (by rw [rcells_append, List.length_append, rcells_length]; simp [rcells, rcell])
    rw [rcells_set] at this
    rw [rcells_append]
    simpa [rcells, rcell, hyu] using this
  have hP : ∀ q ∈ P, ∀ k, q.val.ownBlock = some k → k ≠ g ∧ k < wr.heap.size := fun q hq k hk => ⟨fun e => h.sep.nv q (List.mem_append_left _ hq) k hk (by rw [e]; rfl), h.rc.blt q (List.mem_append_left _ hq) k hk⟩
  refine { oc := ?_, fr := ?_, rc := ⟨hs3, ?_, ?_⟩, sep := ⟨?_, ?_, ?_, ?_⟩, vl := h.vl, cr := ?_, bel := ?_, big := ?_, nb := ?_ }
  · rw [t4.cell (p := ⟨n0 + 2, 0, none⟩) (show ¬ n0 + 2 = g by omega) (by show n0 + 2 < _; omega), t23.cell (p := ⟨n0 + 2, 0, none⟩) id (by show n0 + 2 < _; omega)]
    exact h.oc
  · rw [t4.frozen (p := ⟨n0 + 2, 0, none⟩) (show ¬ n0 + 2 = g by omega) (by show n0 + 2 < _; omega), t23.frozen (p := ⟨n0 + 2, 0, none⟩) id (by show n0 + 2 < _; omega)]
    exact h.fr
  · rw [foldl_take hb, hO, joinL_snoc, if_pos ⟨hbf, hcf⟩]; simp [hlen]
  · rw [foldl_take hb, hO, joinL_snoc, if_pos ⟨hbf, hcf⟩]
    intro i q d h1 h2
    by_cases hi : i < P.length
    · rw [List.getElem?_append_left hi] at h1
      rw [List.getElem?_append_left (by omega)] at h2
      have hk := h.rc.blk i q d (by rw [List.getElem?_append_left hi]; exact h1) (by rw [hO, List.getElem?_append_left (by omega)]; exact h2)
      refine hk.keep fun k e => ?_
      have := hP q (List.mem_of_getElem? h1) k e
      rw [t4.block k (by omega) this.1, t23.block k this.2 id]
    · rw [List.getElem?_append_right (by omega)] at h1
      rw [List.getElem?_append_right (by omega), ← hlen] at h2
      cases hh : i - P.length with
      | zero =>
        rw [hh] at h1 h2
        simp at h1 h2
        subst h1; subst h2
        refine ⟨hz, rfl, zeros z, by simp [zeros, hole, hz], ?_, fun e => by simp [hole] at e⟩
        refine SliceAt.keep (w := W3) ?_ (fun k hk => t4.block k (by simp [RN.val, Value.ownBlock] at hk; omega) (fun e => by simp [RN.val, Value.ownBlock] at hk; omega))
        have := SliceAt.made (sz := 1) hnew (n := z) (by simp [zeros]) (by unfold maxLen; omega)
        simpa [RN.val] using this
      | succ k => rw [hh] at h1; simp at h1
  · intro q hq k hk
    rcases List.mem_append.1 hq with hq | hq
    · exact h.sep.lo q (List.mem_append_left _ hq) k hk
    · simp only [List.mem_singleton] at hq; subst hq
      simp [RN.val, Value.ownBlock] at hk; omega
  · intro q hq k hk
    rcases List.mem_append.1 hq with hq | hq
    · exact h.sep.nv q (List.mem_append_left _ hq) k hk
    · simp only [List.mem_singleton] at hq; subst hq
      simp [RN.val, Value.ownBlock] at hk ⊢; omega
  · exact fun k hk => h.sep.vl k hk
  · refine List.pairwise_append.2 ⟨(List.pairwise_append.1 h.sep.pw).1, List.pairwise_singleton _ _, fun q hq q2 hq2 k hk hk2 => ?_⟩
    simp only [List.mem_singleton] at hq2; subst hq2
    have := hP q hq k hk
    simp [RN.val, Value.ownBlock] at hk2; omega
  · intro q hq q2 hq2 k hk hk2
    rcases List.mem_append.1 hq with hq | hq
    · exact h.cr q (List.mem_append_left _ hq) q2 (by rw [hd]; exact List.mem_cons_of_mem _ hq2) k hk hk2
    · simp only [List.mem_singleton] at hq; subst hq
      have := hL q2 (List.mem_of_mem_drop hq2) k hk2
      simp [RN.val, Value.ownBlock] at hk; omega
  · exact h.bel.trans ⟨by rw [t4.os, t23.os], by rw [t4.tape, t23.tape], by rw [t4.output, t23.output], by have := t4.size; omega, fun k hk => by
      rw [t4.block k (by omega) (by omega), t23.block k (by omega) id]⟩
  · have := t4.size; omega
  · intro q hq k hk
    rcases List.mem_append.1 hq with hq | hq
    · exact h.nb q (List.mem_append_left _ hq) k hk
    · simp only [List.mem_singleton] at hq; subst hq
      simp [RN.val, Value.ownBlock] at hk; omega
end

set_option maxRecDepth 100000 in
set_option maxHeartbeats 4000000 in
theorem rjoined_calls {w : World} {v : Value} {L : List RN} {S : St} (h : RC w v L S) {N : Nat} (hap : Ap N L) (hN : N ≤ w.heap.size) (hs : sz S ≤ 100000) (hl : S.length ≤ 17000) :
    Calls Try.prog 72 #[.agg #[v]] w (RJoinPost N (fuse S) w) := by
  obtain ⟨a, cap, rfl, hn, hc, hcell⟩ := h.ref.form
  have hll : L.length ≤ 17000 := by rw [h.len]; exact hl
  have H := Lib.hid (And.intro h (And.intro hcell (And.intro hs (And.intro hap hN))))
  clear h hcell hs hap hN hl
  go_enter Try.func72, Try.ntmps72
  go_wp2
  obtain ⟨n0, hn0⟩ : ∃ n0, w.heap.size = n0 := ⟨_, rfl⟩
  obtain ⟨w1, hw1⟩ : ∃ w1, ((w.alloc (.cells #[.slice a L.length cap] 59)).alloc (.cells #[.slice none 0 0] 59)).alloc (.cells #[.slice none 0 0] 59) = w1 := ⟨_, rfl⟩
  have hB1 : Below w.heap.size w w1 := by rw [← hw1]; exact (((Below.refl _ w).alloc (Nat.le_refl _) _).alloc (by simp) _).alloc (by simp; omega) _
  have d0 : w1.cell? ⟨n0, 0, none⟩ = some (.slice a L.length cap) := by rw [← hw1, ← hn0]; exact cell_at ((heap_alloc_lt _ _ _ (by simp; omega)).trans ((heap_alloc_lt _ _ _ (by simp)).trans (heap_alloc_new w _))) rfl
  have d1 : w1.cell? ⟨n0 + 1, 0, none⟩ = some (.slice none 0 0) ∧ w1.frozen? ⟨n0 + 1, 0, none⟩ = false := by
    have : w1.heap[n0 + 1]? = some (.cells #[.slice none 0 0] 59 (0, 0)) := by rw [← hw1, ← hn0]; exact (heap_alloc_lt _ _ _ (by simp)).trans (by have := heap_alloc_new (w.alloc (.cells #[.slice a L.length cap] 59)) (.cells #[.slice none 0 0] 59); simpa using this)
    exact ⟨cell_at this rfl, frozen_at this⟩
  have d2 : w1.cell? ⟨n0 + 2, 0, none⟩ = some (.slice none 0 0) ∧ w1.frozen? ⟨n0 + 2, 0, none⟩ = false := by
    have : w1.heap[n0 + 2]? = some (.cells #[.slice none 0 0] 59 (0, 0)) := by rw [← hw1, ← hn0]; have := heap_alloc_new ((w.alloc (.cells #[.slice a L.length cap] 59)).alloc (.cells #[.slice none 0 0] 59)) (.cells #[.slice none 0 0] 59); simpa using this
    exact ⟨cell_at this rfl, frozen_at this⟩
  have hz1 : w1.heap.size = n0 + 3 := by rw [← hw1, ← hn0]; simp
  rw [hw1, hn0]
  have H1 := Lib.hid (And.intro hB1 (And.intro d0 (And.intro d1 (And.intro d2 (And.intro hz1 hn0)))))
  have hcp : JnI w1 n0 N L S 0 w1 (.slice none 0 0) [] := ⟨d2.1, d2.2, by simpa using RC.nil w1, Sep.nil _, fun k hk => by simp [Value.ownBlock] at hk, fun y hy => by simp at hy, Below.refl _ _, by omega, fun y hy => by simp at hy⟩
  clear hw1 hn0 hB1 d0 d1 d2 hz1
  go_loopg [4] (L.length) (fun k x wx => k ≤ L.length ∧ x = .int .i64 ((L.length - k : Nat) : Int) ∧ ∃ v L', JnI w1 n0 N L S (L.length - k) wx v L')
  case atStart => exact ⟨Nat.le_refl _, by simp, by simpa using ⟨_, _, hcp⟩⟩
  case round =>
    clear hcp
    obtain ⟨hk, rfl, v, L', hI⟩ := hrel
    obtain ⟨j, hj⟩ : ∃ j, L.length - gk = j := ⟨_, rfl⟩
    rw [hj] at hI ⊢
    have HJ := Lib.hid hj
    clear hj
    have c0 : wr.cell? ⟨n0, 0, none⟩ = some (.slice a L.length cap) := (hI.bel.cell (p := ⟨n0, 0, none⟩) (by show n0 < n0 + 2; omega)).trans H1.out.2.1
    have o1 : wr.cell? ⟨n0 + 1 + 1, 0, none⟩ = some v := hI.oc
    have o2 : wr.frozen? ⟨n0 + 1 + 1, 0, none⟩ = false := hI.fr
    have hbig : n0 + 1 + 1 < wr.heap.size := by have := hI.big; omega
    have HI := Lib.hid hI
    by_cases hlt : j < L.length
    · obtain ⟨x, hx⟩ : ∃ x, L[j]? = some x := ⟨_, List.getElem?_eq_getElem hlt⟩
      obtain ⟨b, off, rfl, e0, e1⟩ := H.out.2.1 j x hx
      have hbn : b < n0 := by have h : b < w.heap.size := cell_lt e0; rw [H1.out.2.2.2.2.2] at h; exact h
      have hB02 : Below n0 w wr := by have := H1.out.1; rw [H1.out.2.2.2.2.2] at this; exact this.trans (hI.bel.mono (by omega))
      have e0 : wr.cell? ⟨b, off + j * 2, none⟩ = some (.slice x.a x.n x.cap) := (hB02.cell (p := ⟨b, off + j * 2, none⟩) hbn).trans e0
      have e1 : wr.cell? ⟨b, off + j * 2 + 1, none⟩ = some (.bool x.u) := (hB02.cell (p := ⟨b, off + j * 2 + 1, none⟩) hbn).trans e1
      obtain ⟨va, vn, vc, rfl, -⟩ := SliceAt.form hI.rc.ref
      have HX := Lib.hid hx
      clear hI hx
      go_upto_region 7 with fail
      have hbl : ∃ bl, S[j]? = some bl ∧ RBk w x bl := H.out.1.get HX.out
      obtain ⟨bl, hbl, hbk⟩ := hbl
      have hold : ∀ k, x.val.ownBlock = some k → k < n0 := fun k hk => by have := hbk.lt k hk; rw [H1.out.2.2.2.2.2] at this; exact this
      have hbk1 : RBk wr x bl := hbk.keep fun k hk => hB02.block k (hold k hk)
      have hNn : N ≤ n0 + 3 := by have := H.out.2.2.2.2; rw [H1.out.2.2.2.2.2] at this; omega
      obtain ⟨O, hO⟩ : ∃ O, (S.take j).foldl joinL [] = O := ⟨_, rfl⟩
      have hLl : L'.length = O.length := by rw [← hO]; exact HI.out.rc.len
      have hvn : vn = L'.length := by
        obtain ⟨a', c', e, -⟩ := HI.out.rc.ref.form
        cases e; rfl
      have hOl : O.length ≤ j := by
        have : ∀ (S O : St), (S.foldl joinL O).length ≤ O.length + S.length := fun S => by
          induction S with
          | nil => intro O; simp
          | cons b S ih =>
            intro O
            have h1 := ih (joinL O b)
            have h2 : (joinL O b).length ≤ O.length + 1 := by
              rcases List.eq_nil_or_concat O with rfl | ⟨O', c, rfl⟩
              · simp [joinL]
              · rw [List.concat_eq_append, joinL_snoc]; split <;> simp
            simp only [List.foldl_cons, List.length_cons] at h1 ⊢
            omega
        have := this (S.take j) []
        rw [hO, List.length_take] at this
        simp at this; omega
      have HB := Lib.hid (And.intro hbl (And.intro hold (And.intro hbk1 (And.intro hNn (And.intro hO (And.intro hLl hvn))))))
      have hjs : j ≤ 17000 := by omega
      have hxn : x.n = bl.size := hbk.1
      have hxu : x.u = bl.used := hbk.2.1
      have hba := hbk1.2.2
      have hvn2 : vn ≤ 17000 := by omega
      clear hbl hbk hold hbk1 hNn hO hLl hvn hOl hB02 hn
      obtain ⟨W1, hW1⟩ : ∃ W1, wr.alloc (.cells #[.slice x.a x.n x.cap, .bool x.u] 108) = W1 := ⟨_, rfl⟩
      have t1 : Turn (fun _ => False) wr W1 := by rw [← hW1]; exact (Turn.refl (fun _ => False) wr).alloc _
      have hz1 : W1.heap.size = wr.heap.size + 1 := by rw [← hW1]; simp
      have m0 : W1.cell? ⟨wr.heap.size, 0, none⟩ = some (.slice x.a x.n x.cap) := by rw [← hW1]; exact cell_at (heap_alloc_new wr _) rfl
      have m1 : W1.cell? ⟨wr.heap.size, 1, none⟩ = some (.bool x.u) := by rw [← hW1]; exact cell_at (heap_alloc_new wr _) rfl
      have k1 : W1.cell? ⟨n0 + 1 + 1, 0, none⟩ = some (.slice va vn vc) := (t1.cell (p := ⟨n0 + 1 + 1, 0, none⟩) id hbig).trans o1
      have k2 : W1.frozen? ⟨n0 + 1 + 1, 0, none⟩ = false := (t1.frozen (p := ⟨n0 + 1 + 1, 0, none⟩) id hbig).trans o2
      have PUSH := Lib.hid (show ∀ W3 ra rn rc, joinL O bl = O ++ [bl] → Turn (fun k => (Value.slice va vn vc).ownBlock = some k) (W1.alloc (.cells #[.slice x.a x.n x.cap, .bool x.u] 108)) W3 →
          SliceAt W3 108 2 (.slice ra rn rc) (rcells L' ++ rcell x) → ((Value.slice ra rn rc).ownBlock = (Value.slice va vn vc).ownBlock ∨ (Value.slice ra rn rc).ownBlock = some (W1.heap.size + 1)) →
          ∃ v L', JnI w1 n0 N L S (j + 1) (W3.setCell ⟨n0 + 2, 0, none⟩ (.slice ra rn rc)) v L' from fun W3 ra rn rc h1 h2 h3 h4 => ⟨_, _, HI.out.push HX.out HB.out.1 HB.out.2.2.1 (by rw [HB.out.2.2.2.2.1]; exact h1) H.out.2.2.2.1 HB.out.2.2.2.1 HB.out.2.1 (t1.alloc _) h2 h3 (by simpa using h4)⟩)
      have HR := Lib.hid (show RefAt (W1.alloc (.cells #[.slice x.a x.n x.cap, .bool x.u] 108)) (.slice va vn vc) L' from SliceAt.turn HI.out.rc.ref (t1.alloc _) fun _ _ => id)
      have HNW := Lib.hid (heap_alloc_new W1 (.cells #[.slice x.a x.n x.cap, .bool x.u] 108))
      have HT := Lib.hid (And.intro t1 hz1)
      have hbig1 : n0 + 1 + 1 < W1.heap.size := by omega
      rw [hW1]
      obtain ⟨nb, hnb⟩ : ∃ nb, wr.heap.size = nb := ⟨_, rfl⟩
      rw [hnb] at m0 m1 ⊢
      have HNB := Lib.hid hnb
      clear hW1 t1 hz1 hnb hbig
      by_cases hm : (x.u = false ∧ ∃ c O', O = O' ++ [c] ∧ c.used = false)
      · obtain ⟨hu, c, O', hOc, hcf⟩ := hm
        have hf : ∃ (P : List RN) (y : RN) (q g goff : Nat), L' = P ++ [y] ∧ P.length = q ∧ va = some ⟨g, goff, none⟩ ∧ y.n = c.size ∧ IntKind.i64.wrap ((vn : Int) - 1) = (q : Int) ∧ wrap64 ((vn : Int) - 1) = (q : Int) ∧ q < vn ∧
            W1.cell? ⟨g, goff + q * 2, none⟩ = some (.slice y.a y.n y.cap) ∧ W1.cell? ⟨g, goff + q * 2 + 1, none⟩ = some (.bool false) ∧ W1.frozen? ⟨g, goff + q * 2, none⟩ = false ∧ y.n + x.n ≤ 100000 ∧ g < W1.heap.size := by
          have h3 := HB.out.2.2.2.2.2.1
          have h4 := HB.out.2.2.2.2.2.2
          rw [hOc] at h3
          simp at h3
          rcases List.eq_nil_or_concat L' with rfl | ⟨P, y, rfl⟩
          · simp at h3
          · rw [List.concat_eq_append] at h3 h4 ⊢
            simp at h3 h4
            have hI := HI.out
            rw [List.concat_eq_append] at hI
            obtain ⟨a', c', e, -, -, hcell⟩ := hI.rc.ref.form
            cases e
            have hy : (P ++ [y])[P.length]? = some y := by simp
            obtain ⟨g, off, rfl, c1, c2⟩ := hcell _ y hy
            have hbk := hI.rc.blk P.length y c hy (by rw [HB.out.2.2.2.2.1, hOc, h3]; simp)
            have hyu := hbk.2.1
            rw [hcf] at hyu
            rw [hyu] at c2
            have hfr : wr.frozen? ⟨g, off + P.length * 2, none⟩ = false := SliceAt.frozen hI.rc.ref _
            have hs := H.out.2.2.1
            have hsz : Go.Sto.sz O = Go.Sto.sz (S.take j) := by rw [← HB.out.2.2.2.2.1]; exact joins_sz _
            have hsz2 : Go.Sto.sz (S.take (j + 1)) = Go.Sto.sz (S.take j) + bl.size := by rw [List.take_add_one, HB.out.1, sz_append]; simp [Go.Sto.sz]
            have hsz3 : Go.Sto.sz S = Go.Sto.sz (S.take (j + 1)) + Go.Sto.sz (S.drop (j + 1)) := by rw [← sz_append, List.take_append_drop]
            rw [hOc, sz_append] at hsz
            simp [Go.Sto.sz] at hsz
            exact ⟨P, y, P.length, g, off, rfl, rfl, rfl, hbk.1, (IntWalk.i64_in _ (by omega)).trans (by omega), by unfold wrap64; omega, by omega, (HT.out.1.cell (p := ⟨g, off + P.length * 2, none⟩) id (cell_lt c1)).trans c1, (HT.out.1.cell (p := ⟨g, off + P.length * 2 + 1, none⟩) id (cell_lt c2)).trans c2, (HT.out.1.frozen (p := ⟨g, off + P.length * 2, none⟩) id (cell_lt c1)).trans hfr, by rw [hbk.1, hxn]; omega, by have : g < wr.heap.size := cell_lt c1; have := HT.out.2; omega⟩
        obtain ⟨P, y, q, g, goff, rfl, hPq, rfl, hyn, w3, w4, hqv, cy0, cy1, fy, hz, hgl⟩ := hf
        have q5 : (!x.u) = true := by rw [hu]; rfl
        have q1 : decide ((0 : Int) < (vn : Int)) = true := decide_eq_true (by omega)
        have q2 : decide (0 < vn) = true := decide_eq_true (by omega)
        obtain ⟨w5, w6⟩ := wrap_sum' y.n x.n (by omega)
        obtain ⟨W2, hW2⟩ : ∃ W2, W1.drew.alloc (.cells (icells (zeros (y.n + x.n))).toArray 3) = W2 := ⟨_, rfl⟩
        have hmerge := HI.out.merge (z := y.n + x.n) HX.out HB.out.1 (by rw [HB.out.2.2.2.2.1]; exact hOc) hcf (by rw [← hxu]; exact hu) H.out.2.2.2.1 HB.out.2.2.2.1 (fun z hz k hk => by have := H.out.1.blt z hz k hk; rw [H1.out.2.2.2.2.2] at this; exact this) HT.out.1 (by rw [hyn, hxn]) hz hW2
        rw [hPq] at hmerge
        have HM := Lib.hid hmerge
        have fy2 : W2.frozen? ⟨g, goff + q * 2, none⟩ = false := by rw [← hW2]; exact ((((Turn.refl (fun _ => False) W1).drew).alloc _).frozen (p := ⟨g, goff + q * 2, none⟩) id hgl).trans fy
        have cy2 : W2.cell? ⟨g, goff + q * 2, none⟩ = some (.slice y.a y.n y.cap) := by rw [← hW2]; exact ((((Turn.refl (fun _ => False) W1).drew).alloc _).cell (p := ⟨g, goff + q * 2, none⟩) id hgl).trans cy0
        have ko2 : W2.cell? ⟨n0 + 1 + 1, 0, none⟩ = some (.slice (some ⟨g, goff, none⟩) vn vc) := by rw [← hW2]; exact ((((Turn.refl (fun _ => False) W1).drew).alloc _).cell (p := ⟨n0 + 1 + 1, 0, none⟩) id hbig1).trans k1
        have HW2 := Lib.hid hW2
        have HZ := Lib.hid hz
        clear hmerge hW2 hz hyn hxn hxu hu hOc hcf hPq hba PUSH HR HNW
        go_wp2_with fail
        refine wp_region_planG (aF := ?aFm) [16, 19] [[], [16], [16, 19]] 2 [(0, 0, 0), (0, 1, 1), (1, 0, 0), (1, 1, 1), (2, 0, 0), (2, 1, 1), (3, 0, 0), (3, 1, 1), (4, 0, 0), (4, 1, 1), (5, 0, 0), (5, 1, 1), (6, 0, 0), (6, 1, 1), (7, 0, 0), (7, 1, 1), (8, 0, 0), (8, 1, 1), (9, 0, 0), (9, 1, 1), (10, 0, 0), (11, 0, 0), (12, 0, 0), (12, 1, 1), (13, 0, 0), (14, 0, 0), (15, 0, 0), (16, 0, 1), (17, 1, 1), (18, 1, 1), (19, 1, 2)]
          [W1.drew, W2, W2.setCell ⟨g, goff + q * 2, none⟩ (.slice (some ⟨W1.heap.size, 0, none⟩) (y.n + x.n) (y.n + x.n))]
          [.pointer (some ⟨n0 + 1 + 1, 0, none⟩), .slice (some ⟨g, goff, none⟩) vn vc, .int .i64 vn, .int .i64 q, .pointer (some ⟨n0 + 1 + 1, 0, none⟩), .slice (some ⟨g, goff, none⟩) vn vc, .int .i64 vn, .int .i64 q, .pointer (some ⟨g, goff + q * 2, none⟩), .pointer (some ⟨g, goff + q * 2, none⟩), .slice y.a y.n y.cap, .int .i64 y.n,
            .pointer (some ⟨nb, 0, none⟩), .slice x.a x.n x.cap, .int .i64 x.n, .int .i64 ((y.n : Int) + (x.n : Int)), .slice (some ⟨W1.heap.size, 0, none⟩) (y.n + x.n) (y.n + x.n), .pointer (some ⟨g, goff + q * 2, none⟩), .pointer (some ⟨g, goff + q * 2, none⟩), undef]
          (by kernel_rfl) (by kernel_rfl) ?hFm rfl rfl rfl ?hobm ?hendm
        case hFm => simp only [putAll, Act.put]; go_simp; rfl
        case hobm =>
          repeat' (first
            | exact oblsG_nil
            | (refine oblsG_cons rfl rfl rfl ?_ ?_)
            | exact Runs.value rfl rfl rfl
            | (apply Runs.skip rfl rfl; (focus (go_simp; try exact rfl)); exact rfl)
            | (apply Runs.value rfl; (focus (go_simp; try exact rfl)); exact rfl)
            | (apply Runs.value rfl; (focus (go_simp; rw [make_ints ((y.n : Int) + (x.n : Int)) (y.n + x.n) (by omega) HZ.out W1.drew, HW2.out]; try exact rfl)); exact rfl))
        case hendm =>
          go_wp2_with fail
          go_roundg (gk - 1)
          case measure => have := HJ.out; omega
          case rel =>
            have hjj := HJ.out
            have e3 : L.length - (gk - 1) = j + 1 := by omega
            rw [e3]
            exact ⟨by omega, by go_num, ⟨_, _, HM.out⟩⟩
      · have hpush : joinL O bl = O ++ [bl] := by
          rcases List.eq_nil_or_concat O with rfl | ⟨O', c, rfl⟩
          · rfl
          · rw [List.concat_eq_append] at hm ⊢
            rw [joinL_snoc, if_neg (fun h => hm ⟨by rw [hxu]; exact h.1, c, O', rfl, h.2⟩)]
        have HM := Lib.hid (And.intro hm hpush)
        have key : (O = [] ∨ x.u = true) ∨ (x.u = false ∧ ∃ c O', O = O' ++ [c] ∧ c.used = true) := by
          rcases List.eq_nil_or_concat O with rfl | ⟨O', c, rfl⟩
          · exact .inl (.inl rfl)
          · rw [List.concat_eq_append] at hm ⊢
            cases hu : x.u with
            | true => exact .inl (.inr rfl)
            | false =>
              cases hc : c.used with
              | true => exact .inr ⟨rfl, c, O', rfl, hc⟩
              | false => exact absurd ⟨hu, c, O', rfl, hc⟩ hm
        clear hm hpush hxn hxu hba
        have hvl : ∀ k, (Value.slice va vn vc).ownBlock = some k → n0 + 3 ≤ k := HI.out.vl
        have HV := Lib.hid hvl
        clear hvl
        have hkey2 : ∃ (f1 f2 : Bool), decide ((0 : Int) < (vn : Int)) = f1 ∧ decide (0 < vn) = f1 ∧ (!x.u) = f2 ∧ (f1 = true → f2 = true → ∃ (q g off : Nat), IntKind.i64.wrap ((vn : Int) - 1) = (q : Int) ∧ wrap64 ((vn : Int) - 1) = (q : Int) ∧ q < vn ∧ va = some ⟨g, off, none⟩ ∧ W1.cell? ⟨g, off + q * 2 + 1, none⟩ = some (.bool true)) := by
          refine ⟨decide (0 < vn), !x.u, by simp, rfl, rfl, fun e1 e2 => ?_⟩
          rcases key with (h | h) | ⟨h, c, O', h1, h2⟩
          · have h3 := HB.out.2.2.2.2.2.1
            have h4 := HB.out.2.2.2.2.2.2
            rw [h] at h3
            simp at h3 e1
            rw [h3] at h4; simp at h4; omega
          · rw [h] at e2; cases e2
          · have h3 := HB.out.2.2.2.2.2.1
            have h4 := HB.out.2.2.2.2.2.2
            rw [h1] at h3
            simp at h3
            obtain ⟨a', c', e, -, -, hcell⟩ := HI.out.rc.ref.form
            cases e
            obtain ⟨y, hy⟩ : ∃ y, L'[O'.length]? = some y := ⟨_, List.getElem?_eq_getElem (by omega)⟩
            obtain ⟨g, off, rfl, -, c1⟩ := hcell _ y hy
            have hyu := (HI.out.rc.blk O'.length y c hy (by rw [HB.out.2.2.2.2.1, h1]; simp)).2.1
            rw [h2] at hyu
            rw [hyu] at c1
            exact ⟨O'.length, g, off, (IntWalk.i64_in _ (by omega)).trans (by omega), by unfold wrap64; omega, by omega, rfl, (HT.out.1.cell (p := ⟨g, off + O'.length * 2 + 1, none⟩) id (cell_lt c1)).trans c1⟩
        clear key
        obtain ⟨f1, f2, q1, q2, q5, hcase⟩ := hkey2
        have HCASE := Lib.hid hcase
        clear hcase
        have hcl : ∀ k, (Value.slice va vn vc).ownBlock = some k → k ≠ n0 + 2 := fun k hk => by have := HV.out k hk; omega
        have HCL := Lib.hid hcl
        clear hcl
        cases f1 with
        | false =>
          clear HCASE
          go_wp2_with (at_builtin; refine wpList_append _ rfl _ _ 57 57 rfl 108 2 32 (.agg #[.slice none 0 0, .bool false]) Try.underlying57 (.inr ⟨_, Try.underlying57⟩) elemR (.slice va vn vc) _ rfl HR.out _ 1 (rcell x) rfl (Src.slice _ _ _ _ (by simp [rcell]) fun k u hu => by rw [Addr.add_lit]; exact cell_at HNW.out (by simpa [rcell] using hu)) (by intro u hu; simp [rcell] at hu; rcases hu with rfl | rfl <;> rfl) (by simp [rcell, rcells_length]; have := HB.out.2.2.2.2.2.2; omega) (by simp [rcell, rcells_length]; have := HB.out.2.2.2.2.2.2; omega) ?_)
          intro v3 W3 s3 t3 o3 n3
          obtain ⟨ra, rn, rc, rfl, -⟩ := SliceAt.form s3
          have l1 : W3.cell? ⟨n0 + 1 + 1, 0, none⟩ = some (.slice va vn vc) := (t3.cell (p := ⟨n0 + 1 + 1, 0, none⟩) (fun e => HCL.out _ e rfl) (by simp; omega)).trans ((((Turn.refl (fun _ => False) W1).alloc _).cell (p := ⟨n0 + 1 + 1, 0, none⟩) id hbig1).trans k1)
          have l2 : W3.frozen? ⟨n0 + 1 + 1, 0, none⟩ = false := (t3.frozen (p := ⟨n0 + 1 + 1, 0, none⟩) (fun e => HCL.out _ e rfl) (by simp; omega)).trans ((((Turn.refl (fun _ => False) W1).alloc _).frozen (p := ⟨n0 + 1 + 1, 0, none⟩) id hbig1).trans k2)
          have FIN := Lib.hid (PUSH.out W3 ra rn rc HM.out.2 t3 s3 o3)
          clear s3 t3 o3 n3
          go_wp2_with fail
          go_roundg (gk - 1)
          case measure => have := HJ.out; omega
          case rel =>
            have hjj := HJ.out
            have e3 : L.length - (gk - 1) = j + 1 := by omega
            rw [e3]
            exact ⟨by omega, by go_num, FIN.out⟩
        | true =>
          cases f2 with
          | false =>
            clear HCASE
            go_wp2_with (at_builtin; refine wpList_append _ rfl _ _ 57 57 rfl 108 2 32 (.agg #[.slice none 0 0, .bool false]) Try.underlying57 (.inr ⟨_, Try.underlying57⟩) elemR (.slice va vn vc) _ rfl HR.out _ 1 (rcell x) rfl (Src.slice _ _ _ _ (by simp [rcell]) fun k u hu => by rw [Addr.add_lit]; exact cell_at HNW.out (by simpa [rcell] using hu)) (by intro u hu; simp [rcell] at hu; rcases hu with rfl | rfl <;> rfl) (by simp [rcell, rcells_length]; have := HB.out.2.2.2.2.2.2; omega) (by simp [rcell, rcells_length]; have := HB.out.2.2.2.2.2.2; omega) ?_)
            intro v3 W3 s3 t3 o3 n3
            obtain ⟨ra, rn, rc, rfl, -⟩ := SliceAt.form s3
            have l1 : W3.cell? ⟨n0 + 1 + 1, 0, none⟩ = some (.slice va vn vc) := (t3.cell (p := ⟨n0 + 1 + 1, 0, none⟩) (fun e => HCL.out _ e rfl) (by simp; omega)).trans ((((Turn.refl (fun _ => False) W1).alloc _).cell (p := ⟨n0 + 1 + 1, 0, none⟩) id hbig1).trans k1)
            have l2 : W3.frozen? ⟨n0 + 1 + 1, 0, none⟩ = false := (t3.frozen (p := ⟨n0 + 1 + 1, 0, none⟩) (fun e => HCL.out _ e rfl) (by simp; omega)).trans ((((Turn.refl (fun _ => False) W1).alloc _).frozen (p := ⟨n0 + 1 + 1, 0, none⟩) id hbig1).trans k2)
            have FIN := Lib.hid (PUSH.out W3 ra rn rc HM.out.2 t3 s3 o3)
            clear s3 t3 o3 n3
            go_wp2_with fail
            go_roundg (gk - 1)
            case measure => have := HJ.out; omega
            case rel =>
              have hjj := HJ.out
              have e3 : L.length - (gk - 1) = j + 1 := by omega
              rw [e3]
              exact ⟨by omega, by go_num, FIN.out⟩
          | true =>
            obtain ⟨q, g, goff, w3, w4, hqv, rfl, cq⟩ := HCASE.out rfl rfl
            go_wp2_with (at_builtin; refine wpList_append _ rfl _ _ 57 57 rfl 108 2 32 (.agg #[.slice none 0 0, .bool false]) Try.underlying57 (.inr ⟨_, Try.underlying57⟩) elemR (.slice (some ⟨g, goff, none⟩) vn vc) _ rfl HR.out _ 1 (rcell x) rfl (Src.slice _ _ _ _ (by simp [rcell]) fun k u hu => by rw [Addr.add_lit]; exact cell_at HNW.out (by simpa [rcell] using hu)) (by intro u hu; simp [rcell] at hu; rcases hu with rfl | rfl <;> rfl) (by simp [rcell, rcells_length]; have := HB.out.2.2.2.2.2.2; omega) (by simp [rcell, rcells_length]; have := HB.out.2.2.2.2.2.2; omega) ?_)
            intro v3 W3 s3 t3 o3 n3
            obtain ⟨ra, rn, rc, rfl, -⟩ := SliceAt.form s3
            have l1 : W3.cell? ⟨n0 + 1 + 1, 0, none⟩ = some (.slice (some ⟨g, goff, none⟩) vn vc) := (t3.cell (p := ⟨n0 + 1 + 1, 0, none⟩) (fun e => HCL.out _ e rfl) (by simp; omega)).trans ((((Turn.refl (fun _ => False) W1).alloc _).cell (p := ⟨n0 + 1 + 1, 0, none⟩) id hbig1).trans k1)
            have l2 : W3.frozen? ⟨n0 + 1 + 1, 0, none⟩ = false := (t3.frozen (p := ⟨n0 + 1 + 1, 0, none⟩) (fun e => HCL.out _ e rfl) (by simp; omega)).trans ((((Turn.refl (fun _ => False) W1).alloc _).frozen (p := ⟨n0 + 1 + 1, 0, none⟩) id hbig1).trans k2)
            have FIN := Lib.hid (PUSH.out W3 ra rn rc HM.out.2 t3 s3 o3)
            clear s3 t3 o3 n3
            go_wp2_with fail
            go_roundg (gk - 1)
            case measure => have := HJ.out; omega
            case rel =>
              have hjj := HJ.out
              have e3 : L.length - (gk - 1) = j + 1 := by omega
              rw [e3]
              exact ⟨by omega, by go_num, FIN.out⟩
    · obtain rfl : j = L.length := by have := HJ.out; omega
      obtain ⟨va, vn, vc, rfl, -⟩ := SliceAt.form hI.rc.ref
      have r0 := (hI.bel.cell (p := ⟨n0 + 1, 0, none⟩) (by show n0 + 1 < n0 + 2; omega)).trans H1.out.2.2.1.1
      have r1 := (hI.bel.frozen (p := ⟨n0 + 1, 0, none⟩) (by show n0 + 1 < n0 + 2; omega)).trans H1.out.2.2.1.2
      clear hI o2
      go_wp2
      (try simp only [Exit.inBlock, Exit.then]); refine bodyPost_ret (res_c (v := .slice va vn vc) rfl _ _ rfl (World.cell?_setCell_same' _ _ _ (by rw [r0]; rfl))) rfl ?_
      have p := HI.out
      have t : Turn (fun k => k = n0 + 1) wr (wr.setCell ⟨n0 + 1, 0, none⟩ (.slice va vn vc)) := (Turn.refl (fun k => k = n0 + 1) wr).setCell (p := ⟨n0 + 1, 0, none⟩) (fun _ => rfl) _
      have hn0 := H1.out.2.2.2.2.2
      have prc := p.rc
      have hp : S.take L.length = S := by rw [H.out.1.len, List.take_length]
      rw [hp, joins] at prc
      have h1 := H1.out.1
      have h2 := H1.out.2.2.2.2.1
      rw [hn0] at h1
      refine ⟨.slice va vn vc, L', rfl, prc.turn t (fun k hk e => by have := p.vl k hk; omega) (fun y hy k hk e => by have := p.nb y hy k hk; omega), p.sep, fun k hk => by have := p.vl k hk; omega, ?_⟩
      rw [hn0]
      exact (h1.trans (p.bel.mono (by omega))).setCell (p := ⟨n0 + 1, 0, none⟩) (by show n0 ≤ n0 + 1; omega) _
end Go.Sto
