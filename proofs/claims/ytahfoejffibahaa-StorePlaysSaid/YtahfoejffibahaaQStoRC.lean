/-
  The reference's store in memory, with the words of its blocks, beside the model's store.
-/
import Derived.Test.YtahfoejffibahaaQStoRef1
import Derived.Test.YtahfoejffibahaaQStoPure1
set_option linter.unusedVariables false

namespace Go.Sto
open Go.Own Go.RowKit Go.Proofs

def RN.val (x : RN) : Value := .slice x.a x.n x.cap

/-- A block of the reference's reads as a block of the model. -/
def RBk (w : World) (x : RN) (b : Blk) : Prop :=
  x.n = b.size ∧ x.u = b.used ∧ ∃ ws : List Int, ws.length = b.size ∧ SliceAt w 3 1 x.val (icells ws) ∧ (b.used = true → ws.drop 1 = b.ws)

theorem RBk.keep {w w' : World} {x : RN} {b : Blk} (h : RBk w x b) (hb : ∀ k, x.val.ownBlock = some k → w'.heap[k]? = w.heap[k]?) : RBk w' x b := by
  obtain ⟨h1, h2, ws, h3, h4, h5⟩ := h
  exact ⟨h1, h2, ws, h3, h4.keep hb, h5⟩
theorem RBk.lt {w : World} {x : RN} {b : Blk} (h : RBk w x b) : ∀ k, x.val.ownBlock = some k → k < w.heap.size := by
  obtain ⟨h1, h2, ws, h3, h4, h5⟩ := h
  exact h4.lt

structure RC (w : World) (v : Value) (L : List RN) (S : St) : Prop where
  ref : RefAt w v L
  len : L.length = S.length
  blk : ∀ (i : Nat) x b, L[i]? = some x → S[i]? = some b → RBk w x b

theorem RC.get {w : World} {v : Value} {L : List RN} {S : St} (h : RC w v L S) {i : Nat} {x : RN} (hx : L[i]? = some x) : ∃ b, S[i]? = some b ∧ RBk w x b := by
  have hi := (List.getElem?_eq_some_iff.1 hx).1
  have hl := h.len
  obtain ⟨b, hb⟩ : ∃ b, S[i]? = some b := ⟨_, List.getElem?_eq_getElem (by omega)⟩
  exact ⟨b, hb, h.blk i x b hx hb⟩
theorem RC.get' {w : World} {v : Value} {L : List RN} {S : St} (h : RC w v L S) {i : Nat} {b : Blk} (hb : S[i]? = some b) : ∃ x, L[i]? = some x ∧ RBk w x b := by
  have hi := (List.getElem?_eq_some_iff.1 hb).1
  have hl := h.len
  obtain ⟨x, hx⟩ : ∃ b, L[i]? = some b := ⟨_, List.getElem?_eq_getElem (by omega)⟩
  exact ⟨x, hx, h.blk i x b hx hb⟩
theorem RC.blt {w : World} {v : Value} {L : List RN} {S : St} (h : RC w v L S) : ∀ x ∈ L, ∀ k, x.val.ownBlock = some k → k < w.heap.size := fun x hx k hk => by
  obtain ⟨i, hi⟩ := List.mem_iff_getElem?.1 hx
  obtain ⟨b, -, hb⟩ := h.get hi
  exact hb.lt k hk
theorem RC.turn {w w' : World} {T : Nat → Prop} {v : Value} {L : List RN} {S : St} (h : RC w v L S) (t : Turn T w w') (hv : ∀ k, v.ownBlock = some k → ¬ T k) (hx : ∀ x ∈ L, ∀ k, x.val.ownBlock = some k → ¬ T k) : RC w' v L S :=
  ⟨SliceAt.turn h.ref t hv, h.len, fun i x b h1 h2 => (h.blk i x b h1 h2).keep fun k hk => t.block k ((h.blk i x b h1 h2).lt k hk) (hx x (List.mem_of_getElem? h1) k hk)⟩
theorem RC.below {w w' : World} {v : Value} {L : List RN} {S : St} (h : RC w v L S) (hB : Below w.heap.size w w') : RC w' v L S :=
  h.turn (T := fun _ => False) ⟨hB.os, hB.tape, hB.output, hB.size, fun k hk _ => hB.block k hk⟩ (fun _ _ => id) (fun _ _ _ _ => id)
theorem RC.drew {w : World} {v : Value} {L : List RN} {S : St} (h : RC w v L S) : RC w.drew v L S := h.below (Below.refl _ w).drew
theorem RC.alloc {w : World} {v : Value} {L : List RN} {S : St} (h : RC w v L S) (o : Obj) : RC (w.alloc o) v L S := h.below ((Below.refl _ w).alloc (Nat.le_refl _) o)
theorem RC.nil (w : World) : RC w (.slice none 0 0) [] [] := ⟨SliceAt.nil _ _ _, rfl, fun i x b h => by simp at h⟩

theorem RC.szs {w : World} {v : Value} : ∀ {L : List RN} {S : St}, L.length = S.length → (∀ (i : Nat) x b, L[i]? = some x → S[i]? = some b → RBk w x b) → ∀ i, Go.Sto.rsz (L.take i) = Go.Sto.sz (S.take i)
  | [], [], _, _, i => by simp [Go.Sto.rsz, Go.Sto.sz]
  | [], _ :: _, h, _, _ => by simp at h
  | _ :: _, [], h, _, _ => by simp at h
  | x :: L, b :: S, h, hb, 0 => by simp [Go.Sto.rsz, Go.Sto.sz]
  | x :: L, b :: S, h, hb, i + 1 => by
    have h1 := (hb 0 x b rfl rfl).1
    have ih := RC.szs (v := v) (L := L) (S := S) (by simpa using h) (fun i x b h1 h2 => hb (i + 1) x b (by simpa using h1) (by simpa using h2)) i
    simp only [List.take_succ_cons, Go.Sto.rsz, Go.Sto.sz, h1, ih]
theorem RC.rsz {w : World} {v : Value} {L : List RN} {S : St} (h : RC w v L S) (i : Nat) : Go.Sto.rsz (L.take i) = Go.Sto.sz (S.take i) := RC.szs (v := v) h.len h.blk i
theorem RC.rszall {w : World} {v : Value} {L : List RN} {S : St} (h : RC w v L S) : Go.Sto.rsz L = Go.Sto.sz S := by
  have := h.rsz L.length
  rwa [List.take_length, h.len, List.take_length] at this
theorem RC.map {w : World} {v : Value} : ∀ {L : List RN} {S : St}, L.length = S.length → (∀ (i : Nat) x b, L[i]? = some x → S[i]? = some b → RBk w x b) → L.map (fun x => (x.n, x.u)) = S.map (fun b => (b.size, b.used))
  | [], [], _, _ => rfl
  | [], _ :: _, h, _ => by simp at h
  | _ :: _, [], h, _ => by simp at h
  | x :: L, b :: S, h, hb => by
    have h1 := hb 0 x b rfl rfl
    have ih := RC.map (v := v) (L := L) (S := S) (by simpa using h) (fun i x b h1 h2 => hb (i + 1) x b (by simpa using h1) (by simpa using h2))
    simp only [List.map_cons, h1.1, h1.2.1, ih]

/-- The words' blocks of a list: from N on, none the list's own, pairwise apart. -/
structure Sep (N : Nat) (v : Value) (L : List RN) : Prop where
  lo : ∀ x ∈ L, ∀ k, x.val.ownBlock = some k → N ≤ k
  nv : ∀ x ∈ L, ∀ k, x.val.ownBlock = some k → v.ownBlock ≠ some k
  vl : ∀ k, v.ownBlock = some k → N ≤ k
  pw : L.Pairwise fun x y => ∀ k, x.val.ownBlock = some k → y.val.ownBlock ≠ some k

theorem Sep.nil (N : Nat) : Sep N (.slice none 0 0) [] := ⟨fun x h => by simp at h, fun x h => by simp at h, fun k h => by simp [Value.ownBlock] at h, List.Pairwise.nil⟩
theorem Sep.mono {N M : Nat} {v : Value} {L : List RN} (h : Sep N v L) (hm : M ≤ N) : Sep M v L := ⟨fun x hx k hk => Nat.le_trans hm (h.lo x hx k hk), h.nv, fun k hk => Nat.le_trans hm (h.vl k hk), h.pw⟩

/-- Blocks are appended. -/
theorem RC.app {W1 W3 : World} {v v3 : Value} {L L2 : List RN} {S S2 : St} (h : RC W1 v L S) (ht : Turn (fun k => v.ownBlock = some k) W1 W3) (hs : SliceAt W3 108 2 v3 (rcells L ++ rcells L2))
    (hnv : ∀ x ∈ L, ∀ k, x.val.ownBlock = some k → v.ownBlock ≠ some k) (hl : L2.length = S2.length) (hb : ∀ (i : Nat) x b, L2[i]? = some x → S2[i]? = some b → RBk W3 x b) : RC W3 v3 (L ++ L2) (S ++ S2) := by
  refine ⟨?_, by simp [h.len, hl], fun i x b h1 h2 => ?_⟩
  · show SliceAt _ _ _ _ _
    rw [rcells_append]; exact hs
  · have hlen := h.len
    by_cases hi : i < L.length
    · rw [List.getElem?_append_left hi] at h1
      rw [List.getElem?_append_left (by omega)] at h2
      have hk := h.blk i x b h1 h2
      exact hk.keep fun k e => ht.block k (hk.lt k e) (hnv x (List.mem_of_getElem? h1) k e)
    · rw [List.getElem?_append_right (by omega)] at h1
      rw [List.getElem?_append_right (by omega), ← hlen] at h2
      exact hb _ x b h1 h2

theorem Sep.app {N B : Nat} {v v3 : Value} {L L2 : List RN} (h : Sep N v L) (hv3 : v3.ownBlock = v.ownBlock ∨ v3.ownBlock = some B) (hNB : N ≤ B) (hLB : ∀ x ∈ L, ∀ k, x.val.ownBlock = some k → k ≠ B)
    (h2B : ∀ x ∈ L2, ∀ k, x.val.ownBlock = some k → k ≠ B ∧ N ≤ k ∧ v.ownBlock ≠ some k) (hp : L2.Pairwise fun x y => ∀ k, x.val.ownBlock = some k → y.val.ownBlock ≠ some k)
    (hc : ∀ x ∈ L, ∀ y ∈ L2, ∀ k, x.val.ownBlock = some k → y.val.ownBlock ≠ some k) : Sep N v3 (L ++ L2) := by
  refine ⟨fun x hx k hk => ?_, fun x hx k hk e => ?_, fun k hk => ?_, List.pairwise_append.2 ⟨h.pw, hp, hc⟩⟩
  · rcases List.mem_append.1 hx with hx | hx
    · exact h.lo x hx k hk
    · exact (h2B x hx k hk).2.1
  · rcases hv3 with q | q
    · rw [q] at e
      rcases List.mem_append.1 hx with hx | hx
      · exact h.nv x hx k hk e
      · exact (h2B x hx k hk).2.2 e
    · rw [q] at e
      cases e
      rcases List.mem_append.1 hx with hx | hx
      · exact hLB x hx _ hk rfl
      · exact (h2B x hx _ hk).1 rfl
  · rcases hv3 with q | q
    · rw [q] at hk; exact h.vl k hk
    · rw [q] at hk; cases hk; exact hNB

/-- A copy of a row of words: append to nil. -/
theorem run_copy (w : World) (a : Option Addr) (n cap : Nat) (ws : List Int) (h : SliceAt w 3 1 (.slice a n cap) (icells ws)) (h0 : 0 < ws.length) (h1 : ws.length ≤ 100000) (ty : TypeId) :
    ∃ a' c' W, (Builtin.append_ #[24, 24] ty #[.slice none 0 0, .slice a n cap]).run Try.prog w = .ok (.slice a' n c') W ∧ SliceAt W 3 1 (.slice a' n c') (icells ws) ∧ (Value.slice a' n c').ownBlock = some w.heap.size ∧ Below w.heap.size w W := by
  have hn : n = ws.length := by
    obtain ⟨a', n', c', e, hl, -⟩ := h.form
    cases e; rw [icells_length] at hl; omega
  subst hn
  obtain ⟨v', w', hr, hs, ht, ho, hnil⟩ := run_append (P := Try.prog) w 24 24 ty 3 1 8 (.int .i64 0) Try.underlying24 (.inr ⟨_, Try.underlying24⟩) elemInt (.slice none 0 0) [] (SliceAt.nil _ _ _) (.slice a ws.length cap) ws.length (icells ws)
    (Src.of_slice h) (by intro u hu; simp only [icells, List.mem_map] at hu; obtain ⟨x, -, rfl⟩ := hu; rfl) (by simp only [List.length_nil, icells_length]; omega) (by simp only [List.length_nil, icells_length]; omega)
  rw [List.nil_append] at hs
  obtain ⟨a', n', c', rfl, hl, hnc, hcm, hnone⟩ := hs.form
  obtain rfl : n' = ws.length := by rw [icells_length] at hl; omega
  refine ⟨a', c', w', hr, hs, ?_, ⟨ht.os, ht.tape, ht.output, ht.size, fun k hk => ht.block k hk (by simp [Value.ownBlock])⟩⟩
  rcases ho with q | q
  · exfalso
    obtain ⟨g, off, rfl⟩ := hs.addr h0
    simp [Value.ownBlock] at q
  · exact q
end Go.Sto
