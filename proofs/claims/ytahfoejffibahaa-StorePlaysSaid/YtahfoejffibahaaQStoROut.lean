/-
  A list of the reference's blocks that grows behind a box: what an append and its store leave.
-/
import Derived.Test.YtahfoejffibahaaQStoRJoin
set_option linter.unusedVariables false

namespace Go.Sto
open Go.Own Go.RowKit Go.Proofs

structure OuI (w1 : World) (ob M N : Nat) (wx : World) (v : Value) (L : List RN) (T : St) : Prop where
  oc : wx.cell? ⟨ob, 0, none⟩ = some v
  fr : wx.frozen? ⟨ob, 0, none⟩ = false
  rc : RC wx v L T
  sep : Sep N v L
  vl : ∀ k, v.ownBlock = some k → M ≤ k
  nb : ∀ y ∈ L, ∀ k, y.val.ownBlock = some k → k ≠ ob
  tn : Turn (fun k => k = ob ∨ M ≤ k) w1 wx
  lt : ob < M
  big : M ≤ wx.heap.size

section
variable {w1 wx W2 W3 : World} {ob M N m : Nat} {L L2 : List RN} {T S2 : St} {v v3 xv : Value}

theorem OuI.more (h : OuI w1 ob M N wx v L T) (t : Turn (fun _ => False) wx W2) : OuI w1 ob M N W2 v L T :=
  { oc := (t.cell (p := ⟨ob, 0, none⟩) id (by show ob < _; have := h.lt; have := h.big; omega)).trans h.oc, fr := (t.frozen (p := ⟨ob, 0, none⟩) id (by show ob < _; have := h.lt; have := h.big; omega)).trans h.fr
    rc := h.rc.turn t (fun _ _ => id) (fun _ _ _ _ => id), sep := h.sep, vl := h.vl, nb := h.nb, tn := h.tn.trans (t.mono fun _ _ => False.elim), lt := h.lt, big := by have := t.size; have := h.big; omega }

theorem OuI.app (h : OuI w1 ob M N W2 v L T) (t3 : Turn (fun k => v.ownBlock = some k) W2 W3) (hs : SliceAt W3 108 2 v3 (rcells L ++ rcells L2)) (o3 : v3.ownBlock = v.ownBlock ∨ v3.ownBlock = some W2.heap.size) (hl : L2.length = S2.length)
    (hb : ∀ (i : Nat) x b, L2[i]? = some x → S2[i]? = some b → RBk W2 x b) (hN : N ≤ M) (h2 : ∀ x ∈ L2, ∀ k, x.val.ownBlock = some k → k ≠ ob ∧ N ≤ k ∧ v.ownBlock ≠ some k) (hp : L2.Pairwise fun x y => ∀ k, x.val.ownBlock = some k → y.val.ownBlock ≠ some k)
    (hc : ∀ x ∈ L, ∀ y ∈ L2, ∀ k, x.val.ownBlock = some k → y.val.ownBlock ≠ some k) :
    OuI w1 ob M N (W3.setCell ⟨ob, 0, none⟩ v3) v3 (L ++ L2) (T ++ S2) ∧ W3.cell? ⟨ob, 0, none⟩ = some v ∧ W3.frozen? ⟨ob, 0, none⟩ = false := by
  have hbig := h.big
  have hlt := h.lt
  have hz3 := t3.size
  have hvo : ¬ v.ownBlock = some ob := fun e => by have := h.vl _ e; omega
  have hc3 : W3.cell? ⟨ob, 0, none⟩ = some v := (t3.cell (p := ⟨ob, 0, none⟩) hvo (by show ob < _; omega)).trans h.oc
  have hf3 : W3.frozen? ⟨ob, 0, none⟩ = false := (t3.frozen (p := ⟨ob, 0, none⟩) hvo (by show ob < _; omega)).trans h.fr
  have bks : ∀ x ∈ L2, ∀ k, x.val.ownBlock = some k → k < W2.heap.size := fun x hx k hk => by
    obtain ⟨i, hi⟩ := List.mem_iff_getElem?.1 hx
    have hil := (List.getElem?_eq_some_iff.1 hi).1
    exact (hb i x S2[i] hi (List.getElem?_eq_getElem (by omega))).lt k hk
  have rc3 : RC W3 v3 (L ++ L2) (T ++ S2) := h.rc.app t3 hs h.sep.nv hl fun i x b h1 h3 => by
    have hk := hb i x b h1 h3
    exact hk.keep fun k e => t3.block k (hk.lt k e) (h2 x (List.mem_of_getElem? h1) k e).2.2
  have sep3 : Sep N v3 (L ++ L2) := h.sep.app (B := W2.heap.size) o3 (by omega) (fun y hy k hk => by have := h.rc.blt y hy k hk; omega) (fun y hy k hk => ⟨by have := bks y hy k hk; omega, (h2 y hy k hk).2⟩) hp hc
  have hvl3 : ∀ k, v3.ownBlock = some k → M ≤ k := fun k hk => by
    rcases o3 with q | q
    · rw [q] at hk; exact h.vl k hk
    · rw [q] at hk; cases hk; omega
  have nb3 : ∀ y ∈ L ++ L2, ∀ k, y.val.ownBlock = some k → k ≠ ob := fun y hy k hk => by
    rcases List.mem_append.1 hy with hy | hy
    · exact h.nb y hy k hk
    · exact (h2 y hy k hk).1
  have t4 : Turn (fun k => k = ob) W3 (W3.setCell ⟨ob, 0, none⟩ v3) := (Turn.refl (fun k => k = ob) W3).setCell (p := ⟨ob, 0, none⟩) (fun _ => rfl) _
  refine ⟨{ oc := World.cell?_setCell_same' _ _ _ (by rw [hc3]; rfl), fr := by rw [World.frozen?_setCell]; exact hf3, rc := rc3.turn t4 (fun k hk e => by have := hvl3 k hk; omega) nb3, sep := sep3, vl := hvl3, nb := nb3,
            tn := (h.tn.trans (t3.mono fun k _ e => .inr (h.vl k e))).trans (t4.mono fun k _ e => .inl e), lt := hlt, big := by have := t4.size; omega }, hc3, hf3⟩

/-- The append's run, and what its store leaves. -/
theorem OuI.run (h : OuI w1 ob M N W2 v L T) (hsrc : Src W2 2 xv m (rcells L2)) (hl : L2.length = S2.length) (hb : ∀ (i : Nat) x b, L2[i]? = some x → S2[i]? = some b → RBk W2 x b) (hN : N ≤ M)
    (h2 : ∀ x ∈ L2, ∀ k, x.val.ownBlock = some k → k ≠ ob ∧ N ≤ k ∧ v.ownBlock ≠ some k) (hp : L2.Pairwise fun x y => ∀ k, x.val.ownBlock = some k → y.val.ownBlock ≠ some k) (hc : ∀ x ∈ L, ∀ y ∈ L2, ∀ k, x.val.ownBlock = some k → y.val.ownBlock ≠ some k)
    (hlen : L.length + L2.length ≤ 1000000) (ty : TypeId) :
    ∃ ra rn rc W3, (Builtin.append_ #[57, 57] ty #[v, xv]).run Try.prog W2 = .ok (.slice ra rn rc) W3 ∧ OuI w1 ob M N (W3.setCell ⟨ob, 0, none⟩ (.slice ra rn rc)) (.slice ra rn rc) (L ++ L2) (T ++ S2) ∧ W3.cell? ⟨ob, 0, none⟩ = some v ∧ W3.frozen? ⟨ob, 0, none⟩ = false ∧
      Turn (fun k => k = ob ∨ M ≤ k) w1 W3 := by
  obtain ⟨v3, W3, hr3, s3, t3, o3, -⟩ := run_append (P := Try.prog) W2 57 57 ty 108 2 32 (.agg #[.slice none 0 0, .bool false]) Try.underlying57 (.inr ⟨_, Try.underlying57⟩) elemR v (rcells L) h.rc.ref xv m (rcells L2)
    hsrc (by
      intro u hu
      simp only [rcells, List.mem_flatMap, rcell] at hu
      obtain ⟨x, -, hu⟩ := hu
      simp at hu
      rcases hu with rfl | rfl <;> rfl) (by simp [rcells_length]; omega) (by simp [rcells_length]; omega)
  obtain ⟨ra, rn, rc, rfl, -⟩ := SliceAt.form s3
  obtain ⟨h1, h3, h4⟩ := h.app t3 s3 o3 hl hb hN h2 hp hc
  exact ⟨ra, rn, rc, W3, hr3, h1, h3, h4, h.tn.trans (t3.mono fun k _ e => .inr (h.vl k e))⟩
end
end Go.Sto
