/-
  append of a made row of zeros to a row of words, run.
-/
import Derived.Test.YtahfoejffibahaaQStoRPut
import Derived.Test.YtahfoejffibahaaQStoPure2
import Derived.Test.YtahfoejffibahaaQStoWord
set_option linter.unusedVariables false

namespace Go.Sto
open Go.Own Go.RowKit Go.Proofs

theorem zeroCells_ints (m : Nat) : Builtin.zeroCells (Value.int .i64 0).cells m = (icells (zeros m)).toArray := by
  apply Array.ext
  · simp [Builtin.zeroCells, icells, zeros, Value.cells]
  · intro i h1 h2
    simp [Builtin.zeroCells, icells, zeros, Value.cells, Nat.mod_one]

set_option maxRecDepth 100000 in
set_option maxHeartbeats 1000000 in
theorem run_append_make (w : World) (v : Value) (ws : List Int) (hv : SliceAt w 3 1 v (icells ws)) (hws : 0 < ws.length) (m : Nat) (h0 : 0 < m) (h1 : ws.length + m ≤ 100000) (ty : TypeId) :
    ∃ v' w', (Builtin.append_ #[24, 3] ty #[v, .int .i64 m]).run Try.prog w = .ok v' w' ∧ SliceAt w' 3 1 v' (icells (ws ++ zeros m)) ∧ Turn (fun k => v.ownBlock = some k) w w' ∧ (v'.ownBlock = v.ownBlock ∨ v'.ownBlock = some w.heap.size) := by
  obtain ⟨⟨i, hi, hz, hsz, hby⟩, -, -⟩ := elemInt
  have hi3 : Try.prog.underlying 3 = some (.int .i64) := Try.underlying3
  have ht := Try.underlying24
  have hw : IntKind.i64.wrap (m : Int) = m := IntWalk.i64_in _ (by omega)
  have hbytes : ¬ (281474976710656 < (m : Int) * 8) := by omega
  have hneg : ¬ ((m : Int) < 0) := by omega
  have hlit : ∀ u ∈ icells (zeros m), u.oneCell' = true := by
    intro u hu; simp only [icells, List.mem_map] at hu; obtain ⟨x, -, rfl⟩ := hu; rfl
  have hzl : (icells (zeros m)).length = m := by simp [zeros]
  have hzs : (Value.int .i64 0).cells.size = 1 := rfl
  have hm0 : ¬ (m * 1 = 0) := by omega
  have hm0' : ¬ (m = 0) := by omega
  rcases hv with ⟨-, e⟩ | ⟨g, off, n, cap, cur, rfl, hg, hl, hn, hm, hs, hxs⟩
  · have : (icells ws).length = 0 := by rw [e]; rfl
    rw [icells_length] at this
    omega
  · have hnl : n = ws.length := by rw [icells_length] at hl; omega
    by_cases hroom : n + m ≤ cap
    · have hst := run_storeCells_at Try.prog g (off + n) 3 (icells (zeros m)) 0 cur w hg (by omega) hlit
      have e0 : (⟨g, off, none⟩ : Addr).add n = ⟨g, off + n, none⟩ := Addr.add_lit _ _ _
      simp only [Nat.add_zero] at hst
      refine ⟨.slice (some ⟨g, off, none⟩) (n + m) cap, w.setRow g (cur.toList.take (off + n) ++ icells (zeros m) ++ cur.toList.drop (off + n + (icells (zeros m)).length)).toArray, ?_, ?_, ?_, Or.inl rfl⟩
      · simp [Builtin.append_, run_underlying ht, run_underlying hi3, sizeOf, typeInfo, hi, hsz, hby, hw, hbytes, hneg, hroom, e0, hst, zeroValue, hz, zeroCells_ints, hm0', asInt, asIntOf]
      · refine .inr ⟨g, off, n + m, cap, _, rfl, setRow_heap w g cur _ 3 _ hg, by rw [icells_append, List.length_append, hl, hzl, Nat.add_mul]; omega, hroom, hm, ?_, ?_⟩
        · simp only [List.size_toArray, List.length_append, List.length_take, List.length_drop, Array.length_toList]
          omega
        · apply List.ext_getElem?
          intro j
          have hxl : (icells ws).length = n := by omega
          simp only [Nat.mul_one, icells_append, List.getElem?_take, List.getElem?_drop, List.getElem?_append, List.length_append, List.length_take, Array.length_toList]
          rw [Nat.min_eq_left (by omega : off + n ≤ cur.size)]
          by_cases hj : j < n
          · rw [if_pos (by omega), if_pos (by omega), if_pos (by omega), if_pos (by omega), if_pos (by omega)]
            have : ((cur.toList.drop off).take (n * 1))[j]? = (icells ws)[j]? := by rw [hxs]
            rw [List.getElem?_take, if_pos (by omega), List.getElem?_drop] at this
            exact this
          · by_cases hj2 : j < n + m
            · rw [if_pos hj2, if_pos (by omega), if_neg (by omega), if_neg (by omega)]
              congr 1; omega
            · rw [if_neg hj2, if_neg (by omega)]
              rw [List.getElem?_eq_none (by omega)]
      · exact ⟨rfl, rfl, rfl, by simp [World.setRow], fun k hk hne => setRow_other w g k _ (fun e => hne (by simp [Value.ownBlock, e]))⟩
    · have h63'' : ¬ (9223372036854775807 < ((n : Int) + (m : Int))) := by omega
      have h48' : ¬ (281474976710656 < Builtin.nextslicecap (n + m) cap * 8) := by have := growslice_fits (bytes := 8) (by omega : cap < n + m) (by omega : (n + m) * 8 ≤ 140737488355328); omega
      have hx0 : SliceAt w 3 1 (.slice (some ⟨g, off, none⟩) n cap) (icells ws) := .inr ⟨g, off, n, cap, cur, rfl, hg, hl, hn, hm, hs, hxs⟩
      have hfo := run_firstCells_some (P := Try.prog) w.drew 1 n ⟨g, off, none⟩ n cap (icells ws) hl (fun j u hj => by rw [Addr.add_lit]; simpa using hx0.cells j u hj)
      have hge := grownCap_ge w (n + m) cap 3
      have hnm : n + m ≤ maxLen := by unfold maxLen; omega
      have hcm : grownCap w (n + m) cap 3 ≤ maxLen := grownCap_le_maxLen w (n + m) cap 3 hnm
      refine ⟨.slice (some ⟨w.heap.size, 0, none⟩) (n + m) (grownCap w (n + m) cap 3), w.drew.alloc (.cells ((icells ws).toArray ++ (icells (zeros m)).toArray ++ Builtin.zeroCells (Value.int .i64 0).cells (grownCap w (n + m) cap 3 - (n + m))) 3), ?_, ?_, ⟨rfl, rfl, rfl, by simp, fun k hk _ => heap_alloc_lt w.drew _ k hk⟩, Or.inr rfl⟩
      · simp [Builtin.append_, run_underlying ht, run_underlying hi3, sizeOf, typeInfo, hi, hsz, hby, hw, hbytes, hneg, hroom, hfo, h63'', h48', zeroValue, hz, zeroCells_ints, hm0', asInt, asIntOf, newRow, grownCap, Question.forced]
        try (congr 2; apply Array.ext'; simp [List.append_assoc])
      · refine .inr ⟨w.heap.size, 0, n + m, _, _, rfl, heap_alloc_new w.drew _, by rw [icells_append, List.length_append, hl, hzl]; omega, hge, hcm, ?_, ?_⟩
        · simp only [Array.size_append, List.size_toArray, size_zeroCells, hzs, hl, hzl, Nat.zero_add]
          omega
        · simp only [Array.toList_append, List.append_assoc, List.drop_zero, Nat.mul_one, icells_append]
          rw [← List.append_assoc]
          have : (icells ws ++ icells (zeros m)).length = n + m := by rw [List.length_append, hl, hzl]; omega
          rw [← this]
          exact List.take_left
end Go.Sto

/-
  Where a block goes that finds no room: the plain part.
-/
namespace Go.Sto
open Go.Own Go.RowKit Go.Proofs

theorem resize_more (l : List Int) (p q : Nat) (h : q ≤ l.length + p) : (l ++ zeros p).take q = resize l q := by
  unfold resize
  apply List.ext_getElem?
  intro k
  rw [List.getElem?_take, List.getElem?_take]
  split
  · rename_i hk
    by_cases h1 : k < l.length
    · rw [List.getElem?_append_left h1, List.getElem?_append_left h1]
    · rw [List.getElem?_append_right (by omega), List.getElem?_append_right (by omega)]
      simp [zeros, List.getElem?_replicate]
      rw [if_pos (by omega), if_pos (by omega)]
  · rfl

section
variable {w w' : World} {T : Nat → Prop} {g off n cap i : Nat} {L : List RN} {S : St} {y : RN} {b' : Blk} {N : Nat}
theorem RC.poke2 (h : RC w (.slice (some ⟨g, off, none⟩) n cap) L S) (hs : SliceAt w' 108 2 (.slice (some ⟨g, off, none⟩) n cap) (rcells (L.set i y))) (t : Turn T w w')
    (hL : ∀ j x, j ≠ i → L[j]? = some x → ∀ k, x.val.ownBlock = some k → ¬ T k) (hy : RBk w' y b') : RC w' (.slice (some ⟨g, off, none⟩) n cap) (L.set i y) (S.set i b') := by
  refine ⟨hs, by simp [h.len], fun j z c h1 h2 => ?_⟩
  rw [List.getElem?_set] at h1 h2
  split at h1
  · rename_i hij
    subst hij
    rw [if_pos rfl] at h2
    split at h1
    · split at h2
      · cases h1; cases h2
        exact hy
      · cases h2
    · cases h1
  · rename_i hij
    rw [if_neg hij] at h2
    have hk := h.blk j z c h1 h2
    exact hk.keep fun k e => t.block k (hk.lt k e) (hL j z (fun e => hij e.symm) h1 k e)
theorem Ap.set' (h : Ap N L) (h1 : ∀ k, y.val.ownBlock = some k → N ≤ k ∧ ∀ j x, j ≠ i → L[j]? = some x → x.val.ownBlock ≠ some k) : Ap N (L.set i y) := by
  refine ⟨fun z hz k hk => ?_, ?_⟩
  · rcases List.mem_or_eq_of_mem_set hz with hz | rfl
    · exact h.1 z hz k hk
    · exact (h1 k hk).1
  · have hp := h.2
    rw [List.pairwise_iff_getElem] at hp ⊢
    intro a c ha hc hac k hk hk2
    rw [List.length_set] at ha hc
    rw [List.getElem_set] at hk hk2
    split at hk
    · split at hk2
      · omega
      · exact (h1 k hk).2 c _ (by omega) (List.getElem?_eq_getElem hc) hk2
    · split at hk2
      · exact (h1 k hk2).2 a _ (by omega) (List.getElem?_eq_getElem ha) hk
      · exact hp a c ha hc hac k hk hk2
theorem Ap.other (h : Ap N L) {x : RN} (hx : L[i]? = some x) {j : Nat} {q : RN} (hj : j ≠ i) (hq : L[j]? = some q) {k : Nat} (hk : x.val.ownBlock = some k) : q.val.ownBlock ≠ some k := by
  have hp := h.2
  rw [List.pairwise_iff_getElem] at hp
  obtain ⟨h1, rfl⟩ := List.getElem?_eq_some_iff.1 hx
  obtain ⟨h2, rfl⟩ := List.getElem?_eq_some_iff.1 hq
  intro e
  rcases Nat.lt_or_ge i j with h3 | h3
  · exact hp i j h1 h2 h3 k hk e
  · exact hp j i h2 h1 (by omega) k e hk
theorem Ap.sub {L' : List RN} (h : Ap N L) (hs : L'.Sublist L) : Ap N L' := ⟨fun x hx => h.1 x (hs.subset hx), h.2.sublist hs⟩
end

theorem set_selfR {L : List RN} {i : Nat} {b : RN} (h : L[i]? = some b) : L.set i b = L := by
  apply List.ext_getElem?
  intro j
  rw [List.getElem?_set]
  split
  · rename_i e; subst e
    rw [if_pos (List.getElem?_eq_some_iff.1 h).1, h]
  · rfl
theorem sz_take_lt {S : St} (h : ∀ b ∈ S, 0 < b.size) : ∀ {k i : Nat}, k < i → i ≤ S.length → sz (S.take k) < sz (S.take i) := by
  intro k i hk hi
  induction i with
  | zero => omega
  | succ i ih =>
    obtain ⟨b, hb⟩ : ∃ b, S[i]? = some b := ⟨_, List.getElem?_eq_getElem (by omega)⟩
    have h1 : sz (S.take (i + 1)) = sz (S.take i) + b.size := by rw [List.take_add_one, hb, sz_append]; simp [sz]
    have h2 := h b (List.mem_of_getElem? hb)
    rcases Nat.lt_or_ge k i with q | q
    · have := ih q (by omega); omega
    · obtain rfl : k = i := by omega
      omega

theorem get_find {n : Nat} {S : St} {k : Int} (ok : Ok n S) (h0 : 0 ≤ k) (h1 : k ≤ 32000) (he : (get S k).2.2 = 0) :
    ∃ i, find (get S k).2.1 (get S k).1 = some i ∧ (get S k).1[i]? = some ⟨need k, true, zeros (need k - 1)⟩ ∧ Ok n (get S k).1 := by
  rcases hh : hit (fits (need k)) 0 S with _ | i
  · rw [get_none h0 h1 hh] at he; cases he
  · obtain ⟨A, x, B, rfl, rfl, hx, -⟩ := hit_some hh
    have hb : (A ++ x :: B)[A.length]? = some x := by simp
    have e := get_hit h0 h1 hh hb
    unfold fits at hx
    simp at hx
    have hok : Ok n (A ++ ⟨need k, true, zeros (need k - 1)⟩ :: (rest x.size (need k) ++ B)) := take_ok ok hx.1 hx.2 (need_good k).1 (need_good k).2 _ (good_zeros (need_good k).1 (need_good k).2)
    have et : (A ++ x :: B).take A.length = A := by simp
    have ed : (A ++ x :: B).drop (A.length + 1) = B := by rw [← List.drop_drop]; simp
    rw [et, ed] at e
    rw [e]
    refine ⟨A.length, ?_, by simp, hok⟩
    refine hit_idx (p := isAt ((sz A : Int) + 1)) (b := ⟨need k, true, zeros (need k - 1)⟩) (by simp) (by unfold isAt; simp) (fun j c hj hc => ?_)
    unfold isAt
    have h2 := sz_take_lt (S := A ++ ⟨need k, true, zeros (need k - 1)⟩ :: (rest x.size (need k) ++ B)) (fun b hb => by have := (hok.good b hb).two; omega) hj (by simp)
    have h3 : (A ++ ⟨need k, true, zeros (need k - 1)⟩ :: (rest x.size (need k) ++ B)).take A.length = A := by simp
    rw [h3] at h2
    cases c.used with
    | false => rfl
    | true =>
      simp only [Bool.true_and, decide_eq_false_iff_not]
      rw [Nat.zero_add]
      intro e
      have : sz (List.take j (A ++ ⟨need k, true, zeros (need k - 1)⟩ :: (rest x.size (need k) ++ B))) = sz A := by omega
      omega

theorem set_ok' {n : Nat} {S : St} {i : Nat} {x : Blk} (h : Ok n S) (hx : S[i]? = some x) (ws : List Int) (hl : ws.length = x.ws.length) (hw : ∀ v ∈ ws, (Lit.int .i64 v).wf = true) : Ok n (S.set i ⟨x.size, x.used, ws⟩) := by
  have h1 := take_set_drop (c := ⟨x.size, x.used, ws⟩) hx
  rw [split_at h1.2.2, h1.1, h1.2.1]
  exact set_ok (by rw [← split_at hx]; exact h) ws hl hw
theorem setWords_set {S : St} {i : Nat} {x : Blk} (hx : S[i]? = some x) (ws : List Int) : setWords S i ws = S.set i ⟨x.size, x.used, ws⟩ := by
  unfold setWords
  rw [drop_at hx]
  have h1 := take_set_drop (c := ⟨x.size, x.used, ws⟩) hx
  rw [split_at h1.2.2, h1.1, h1.2.1]

/-- The words of the block that a row is copied to, behind q - 1 rounds. -/
def cu (ws0 ws : List Int) (m q : Nat) : List Int := ws0.take 1 ++ ((ws.drop 1).take (q - 1) ++ zeros (m - q))
theorem cu_length {ws0 ws : List Int} {m q : Nat} (h0 : ws0.length = m) (hq : 1 ≤ q) (hqm : q ≤ m) (hw : q ≤ ws.length) : (cu ws0 ws m q).length = m := by
  unfold cu; simp [zeros]; omega
theorem cu_first {ws0 ws : List Int} {m : Nat} (h0 : ws0.length = m) (hz : ws0.drop 1 = zeros (m - 1)) : cu ws0 ws m 1 = ws0 := by
  unfold cu
  simp only [Nat.sub_self, List.take_zero, List.nil_append]
  rw [← hz, List.take_append_drop]
theorem cu_next {ws0 ws : List Int} {m q : Nat} (h0 : ws0.length = m) (hq : 1 ≤ q) (hqm : q < m) (hw : q < ws.length) {x : Int} (hx : ws[q]? = some x) : (cu ws0 ws m q).set q x = cu ws0 ws m (q + 1) := by
  have hl1 : (ws0.take 1).length = 1 := by rw [List.length_take]; omega
  have hl2 : ((ws.drop 1).take (q - 1)).length = q - 1 := by rw [List.length_take, List.length_drop]; omega
  have e1 : cu ws0 ws m q = (ws0.take 1 ++ (ws.drop 1).take (q - 1)) ++ 0 :: zeros (m - (q + 1)) := by
    unfold cu
    rw [List.append_assoc]
    congr 2
    rw [show m - q = (m - (q + 1)) + 1 by omega]
    rfl
  have e2 : cu ws0 ws m (q + 1) = (ws0.take 1 ++ (ws.drop 1).take (q - 1)) ++ x :: zeros (m - (q + 1)) := by
    unfold cu
    have h3 : (ws.drop 1).take (q + 1 - 1) = (ws.drop 1).take (q - 1) ++ [x] := by
      rw [show q + 1 - 1 = (q - 1) + 1 by omega, List.take_add_one, List.getElem?_drop, show 1 + (q - 1) = q by omega, hx]
      rfl
    rw [h3]
    simp [List.append_assoc]
  have hl : (ws0.take 1 ++ (ws.drop 1).take (q - 1)).length = q := by rw [List.length_append, hl1, hl2]; omega
  rw [e1, e2, List.set_append_right _ _ (by omega), hl, Nat.sub_self]
  rfl
theorem cu_last {ws0 ws : List Int} {m : Nat} (h0 : ws0.length = m) (hw : 1 ≤ ws.length) (hm : ws.length ≤ m) : (cu ws0 ws m ws.length).drop 1 = resize (ws.drop 1) (m - 1) := by
  unfold cu
  have hl1 : (ws0.take 1).length = 1 := by rw [List.length_take]; omega
  rw [List.drop_append, hl1, Nat.sub_self, List.drop_zero, List.drop_of_length_le (by omega), List.nil_append, List.take_of_length_le (by rw [List.length_drop]; exact Nat.le_refl _)]
  have hz : m - ws.length = (m - 1) - (ws.drop 1).length := by rw [List.length_drop]; omega
  rw [hz]
  have h1 := resize_more (ws.drop 1) ((m - 1) - (ws.drop 1).length) (m - 1) (by rw [List.length_drop]; omega)
  rw [← h1, List.take_of_length_le (by simp [zeros]; omega)]
end Go.Sto
