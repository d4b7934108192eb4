/-
  The reference's player in memory.
-/
import Derived.Test.YtahfoejffibahaaQStoRGrow
import Derived.Test.YtahfoejffibahaaQStoRPlayPure
import Derived.Test.YtahfoejffibahaaQOwnRegionHL
set_option linter.unusedVariables false

namespace Go.Sto
open Go.Own Go.RowKit Go.Proofs

def bools (l : List Bool) : List Value := l.map Value.bool
theorem bools_length (l : List Bool) : (bools l).length = l.length := List.length_map _

structure RPM (w0 : World) (pb : Nat) (q : RP) (v gv wv ov : Value) (L : List RN) (w : World) : Prop where
  blk : w.heap[pb]? = some (.cells #[v, gv, wv, ov] 78 (0, 0))
  rc : RC w v L q.S
  gs : SliceAt w 3 1 gv (icells q.gave)
  ws : SliceAt w 4 1 wv (bools q.works)
  os : SliceAt w 3 1 ov (icells q.got)
  ag : ∀ k, gv.ownBlock = some k → ov.ownBlock ≠ some k ∧ (∀ x ∈ L, x.val.ownBlock ≠ some k) ∧ w0.heap.size ≤ k
  ao : ∀ k, ov.ownBlock = some k → (∀ x ∈ L, x.val.ownBlock ≠ some k) ∧ w0.heap.size ≤ k
  aw : ∀ k, wv.ownBlock = some k → w0.heap.size ≤ k
  old : Below w0.heap.size w0 w
  pbz : w0.heap.size ≤ pb

section
variable {w0 w w' : World} {pb : Nat} {q : RP} {v v' gv wv ov gv' wv' ov' : Value} {L L' : List RN} {T : St}

theorem RPM.below (h : RPM w0 pb q v gv wv ov L w) (hB : Below w.heap.size w w') : RPM w0 pb q v gv wv ov L w' :=
  { blk := (hB.block pb (heap_lt h.blk)).trans h.blk, rc := h.rc.below hB
    gs := SliceAt.keep h.gs fun k hk => hB.block k (SliceAt.lt h.gs k hk), ws := SliceAt.keep h.ws fun k hk => hB.block k (SliceAt.lt h.ws k hk), os := SliceAt.keep h.os fun k hk => hB.block k (SliceAt.lt h.os k hk)
    ag := h.ag, ao := h.ao, aw := h.aw, old := h.old.trans (hB.mono h.old.size), pbz := h.pbz }

/-- The player's block is no slice's, nor a word's. -/
theorem RPM.pb_ne (h : RPM w0 pb q v gv wv ov L w) : v.ownBlock ≠ some pb ∧ gv.ownBlock ≠ some pb ∧ wv.ownBlock ≠ some pb ∧ ov.ownBlock ≠ some pb ∧ ∀ x ∈ L, x.val.ownBlock ≠ some pb :=
  ⟨fun e => absurd (SliceAt.elem h.rc.ref e h.blk) (by decide), fun e => absurd (SliceAt.elem h.gs e h.blk) (by decide), fun e => absurd (SliceAt.elem h.ws e h.blk) (by decide), fun e => absurd (SliceAt.elem h.os e h.blk) (by decide), fun x hx e => by
    obtain ⟨i, hi⟩ := List.mem_iff_getElem?.1 hx
    obtain ⟨c, -, hc⟩ := h.rc.get hi
    exact absurd (hc.ne_cells e h.blk) (by decide)⟩

/-- The store is another: its list is stored into the player's block. -/
theorem RPM.store (h : RPM w0 pb q v gv wv ov L w) (rc : RC w v' L' T) (hF : (v' = v ∧ L' = L) ∨ ∃ N, Sep N v' L' ∧ (∀ k, gv.ownBlock = some k → k < N) ∧ (∀ k, ov.ownBlock = some k → k < N)) :
    RPM w0 pb { q with S := T } v' gv wv ov L' (w.setCell ⟨pb, 0, none⟩ v') := by
  obtain ⟨n1, n2, n3, n4, n5⟩ := h.pb_ne
  have t : Turn (fun k => k = pb) w (w.setCell ⟨pb, 0, none⟩ v') := (Turn.refl (fun k => k = pb) w).setCell (p := ⟨pb, 0, none⟩) (fun _ => rfl) _
  have m1 : v'.ownBlock ≠ some pb := fun e => absurd (SliceAt.elem rc.ref e h.blk) (by decide)
  have m2 : ∀ x ∈ L', x.val.ownBlock ≠ some pb := fun x hx e => by
    obtain ⟨i, hi⟩ := List.mem_iff_getElem?.1 hx
    obtain ⟨c, -, hc⟩ := rc.get hi
    exact absurd (hc.ne_cells e h.blk) (by decide)
  exact { blk := by rw [heap_setCell_self _ h.blk]; rfl
          rc := rc.turn t (fun k hk e => m1 (by rw [hk, e])) (fun x hx k hk e => m2 x hx (by rw [hk, e]))
          gs := SliceAt.turn h.gs t fun k hk e => n2 (by rw [hk, e]), ws := SliceAt.turn h.ws t fun k hk e => n3 (by rw [hk, e]), os := SliceAt.turn h.os t fun k hk e => n4 (by rw [hk, e])
          ag := fun k hk => ⟨(h.ag k hk).1, fun x hx => by
            rcases hF with ⟨-, rfl⟩ | ⟨N, hs, hg, -⟩
            · exact (h.ag k hk).2.1 x hx
            · intro e; have := hs.lo x hx k e; have := hg k hk; omega, (h.ag k hk).2.2⟩
          ao := fun k hk => ⟨fun x hx => by
            rcases hF with ⟨-, rfl⟩ | ⟨N, hs, -, ho⟩
            · exact (h.ao k hk).1 x hx
            · intro e; have := hs.lo x hx k e; have := ho k hk; omega, (h.ao k hk).2⟩
          aw := h.aw
          old := h.old.setCell (p := ⟨pb, 0, none⟩) h.pbz _, pbz := h.pbz }

/-- One entry of what was got is another. -/
theorem RPM.set_got {g off m c i : Nat} {u : Int} (h : RPM w0 pb q v gv wv (.slice (some ⟨g, off, none⟩) m c) L w) (hi : i < q.got.length) :
    RPM w0 pb { q with got := q.got.set i u } v gv wv (.slice (some ⟨g, off, none⟩) m c) L (w.setCell ⟨g, off + i, none⟩ (.int .i64 u)) := by
  obtain ⟨n1, n2, n3, n4, n5⟩ := h.pb_ne
  have t : Turn (fun k => k = g) w (w.setCell ⟨g, off + i, none⟩ (.int .i64 u)) := (Turn.refl (fun k => k = g) w).setCell (p := ⟨g, off + i, none⟩) (fun _ => rfl) _
  have hg : (Value.slice (some ⟨g, off, none⟩) m c).ownBlock = some g := rfl
  have ho := h.ao g hg
  have hgn : pb ≠ g := fun e => n4 (by rw [hg, e])
  have hset := SliceAt.set h.os i (.int .i64 u) (by rw [icells_length]; exact hi)
  have e2 : (icells q.got).set i (.int .i64 u) = icells (q.got.set i u) := by unfold icells; rw [List.map_set]
  rw [e2] at hset
  -- the block of what was got holds ints; the list's and the marks' do not
  have ht : ∃ cur, w.heap[g]? = some (.cells cur 3 (0, 0)) := by
    rcases h.os with ⟨e, -⟩ | ⟨g', off', n', cap', cur, e, hh, -⟩
    · cases e
    · cases e; exact ⟨cur, hh⟩
  obtain ⟨cur, hcur⟩ := ht
  exact { blk := (t.block pb (heap_lt h.blk) hgn).trans h.blk
          rc := h.rc.turn t (fun k hk e => by subst e; exact absurd (SliceAt.elem h.rc.ref hk hcur) (by decide)) (fun x hx k hk e => ho.1 x hx (by rw [hk, e]))
          gs := SliceAt.turn h.gs t fun k hk e => (h.ag k hk).1 (by rw [hg, e]), ws := SliceAt.turn h.ws t fun k hk e => by subst e; exact absurd (SliceAt.elem h.ws hk hcur) (by decide)
          os := hset, ag := h.ag, ao := h.ao, aw := h.aw
          old := h.old.setCell (p := ⟨g, off + i, none⟩) ho.2 _, pbz := h.pbz }
end
end Go.Sto

/-
  The reference's player: a list of its block grows.
-/
namespace Go.Sto
open Go.Own Go.RowKit Go.Proofs

section
variable {w0 w w' : World} {pb : Nat} {q : RP} {v gv wv ov v' : Value} {L : List RN}

theorem elemAt {w : World} {e : TypeId} {s : Nat} {v : Value} {l : List Value} (h : SliceAt w e s v l) {k : Nat} (hk : v.ownBlock = some k) : ∃ cur, w.heap[k]? = some (.cells cur e (0, 0)) := by
  rcases h with ⟨rfl, -⟩ | ⟨g', off', n', cap', cur, rfl, hh, -⟩
  · cases hk
  · cases hk; exact ⟨cur, hh⟩

theorem RPM.app_got {l : List Int} (h : RPM w0 pb q v gv wv ov L w) (ht : Turn (fun k => ov.ownBlock = some k) w w') (hv : SliceAt w' 3 1 v' (icells l)) (hw : v'.ownBlock = ov.ownBlock ∨ v'.ownBlock = some w.heap.size) :
    RPM w0 pb { q with got := l } v gv wv v' L (w'.setCell ⟨pb, 3, none⟩ v') := by
  obtain ⟨n1, n2, n3, n4, n5⟩ := h.pb_ne
  have hb : w'.heap[pb]? = some (.cells #[v, gv, wv, ov] 78 (0, 0)) := (ht.block pb (heap_lt h.blk) n4).trans h.blk
  have t : Turn (fun k => k = pb) w' (w'.setCell ⟨pb, 3, none⟩ v') := (Turn.refl (fun k => k = pb) w').setCell (p := ⟨pb, 3, none⟩) (fun _ => rfl) _
  have m4 : v'.ownBlock ≠ some pb := fun e => absurd (SliceAt.elem hv e hb) (by decide)
  have hz := h.old.size
  exact { blk := by rw [heap_setCell_self _ hb]; rfl
          rc := (h.rc.turn ht (fun k hk e => by obtain ⟨c, hc⟩ := elemAt h.os e; exact absurd (SliceAt.elem h.rc.ref hk hc) (by decide)) (fun x hx k hk e => (h.ao k e).1 x hx hk)).turn t (fun k hk e => n1 (by rw [hk, e])) (fun x hx k hk e => n5 x hx (by rw [hk, e]))
          gs := SliceAt.turn (SliceAt.turn h.gs ht fun k hk e => (h.ag k hk).1 e) t fun k hk e => n2 (by rw [hk, e])
          ws := SliceAt.turn (SliceAt.turn h.ws ht fun k hk e => by obtain ⟨c, hc⟩ := elemAt h.os e; exact absurd (SliceAt.elem h.ws hk hc) (by decide)) t fun k hk e => n3 (by rw [hk, e])
          os := SliceAt.turn hv t fun k hk e => m4 (by rw [hk, e])
          ag := fun k hk => ⟨fun e => by
            rcases hw with hw | hw
            · exact (h.ag k hk).1 (by rw [← hw, e])
            · rw [e] at hw; cases hw; exact absurd (SliceAt.lt h.gs _ hk) (Nat.lt_irrefl _), (h.ag k hk).2⟩
          ao := fun k hk => by
            rcases hw with hw | hw
            · exact h.ao k (by rw [← hw, hk])
            · rw [hk] at hw; cases hw
              exact ⟨fun x hx e => absurd (h.rc.blt x hx _ e) (Nat.lt_irrefl _), hz⟩
          aw := h.aw
          old := (h.old.trans (Turn.below (ht.mono fun k _ e => (h.ao k e).2) hz)).setCell (p := ⟨pb, 3, none⟩) h.pbz _, pbz := h.pbz }

theorem RPM.app_gave {l : List Int} (h : RPM w0 pb q v gv wv ov L w) (ht : Turn (fun k => gv.ownBlock = some k) w w') (hv : SliceAt w' 3 1 v' (icells l)) (hw : v'.ownBlock = gv.ownBlock ∨ v'.ownBlock = some w.heap.size) :
    RPM w0 pb { q with gave := l } v v' wv ov L (w'.setCell ⟨pb, 1, none⟩ v') := by
  obtain ⟨n1, n2, n3, n4, n5⟩ := h.pb_ne
  have hb : w'.heap[pb]? = some (.cells #[v, gv, wv, ov] 78 (0, 0)) := (ht.block pb (heap_lt h.blk) n2).trans h.blk
  have t : Turn (fun k => k = pb) w' (w'.setCell ⟨pb, 1, none⟩ v') := (Turn.refl (fun k => k = pb) w').setCell (p := ⟨pb, 1, none⟩) (fun _ => rfl) _
  have m4 : v'.ownBlock ≠ some pb := fun e => absurd (SliceAt.elem hv e hb) (by decide)
  have hz := h.old.size
  exact { blk := by rw [heap_setCell_self _ hb]; rfl
          rc := (h.rc.turn ht (fun k hk e => by obtain ⟨c, hc⟩ := elemAt h.gs e; exact absurd (SliceAt.elem h.rc.ref hk hc) (by decide)) (fun x hx k hk e => (h.ag k e).2.1 x hx hk)).turn t (fun k hk e => n1 (by rw [hk, e])) (fun x hx k hk e => n5 x hx (by rw [hk, e]))
          gs := SliceAt.turn hv t fun k hk e => m4 (by rw [hk, e])
          ws := SliceAt.turn (SliceAt.turn h.ws ht fun k hk e => by obtain ⟨c, hc⟩ := elemAt h.gs e; exact absurd (SliceAt.elem h.ws hk hc) (by decide)) t fun k hk e => n3 (by rw [hk, e])
          os := SliceAt.turn (SliceAt.turn h.os ht fun k hk e => (h.ag k e).1 hk) t fun k hk e => n4 (by rw [hk, e])
          ag := fun k hk => by
            rcases hw with hw | hw
            · exact h.ag k (by rw [← hw, hk])
            · rw [hk] at hw; cases hw
              exact ⟨fun e => absurd (SliceAt.lt h.os _ e) (Nat.lt_irrefl _), fun x hx e => absurd (h.rc.blt x hx _ e) (Nat.lt_irrefl _), hz⟩
          ao := h.ao, aw := h.aw
          old := (h.old.trans (Turn.below (ht.mono fun k _ e => (h.ag k e).2.2) hz)).setCell (p := ⟨pb, 1, none⟩) h.pbz _, pbz := h.pbz }

theorem RPM.app_works {l : List Bool} (h : RPM w0 pb q v gv wv ov L w) (ht : Turn (fun k => wv.ownBlock = some k) w w') (hv : SliceAt w' 4 1 v' (bools l)) (hw : v'.ownBlock = wv.ownBlock ∨ v'.ownBlock = some w.heap.size) :
    RPM w0 pb { q with works := l } v gv v' ov L (w'.setCell ⟨pb, 2, none⟩ v') := by
  obtain ⟨n1, n2, n3, n4, n5⟩ := h.pb_ne
  have hb : w'.heap[pb]? = some (.cells #[v, gv, wv, ov] 78 (0, 0)) := (ht.block pb (heap_lt h.blk) n3).trans h.blk
  have t : Turn (fun k => k = pb) w' (w'.setCell ⟨pb, 2, none⟩ v') := (Turn.refl (fun k => k = pb) w').setCell (p := ⟨pb, 2, none⟩) (fun _ => rfl) _
  have m4 : v'.ownBlock ≠ some pb := fun e => absurd (SliceAt.elem hv e hb) (by decide)
  have hz := h.old.size
  exact { blk := by rw [heap_setCell_self _ hb]; rfl
          rc := (h.rc.turn ht (fun k hk e => by obtain ⟨c, hc⟩ := elemAt h.ws e; exact absurd (SliceAt.elem h.rc.ref hk hc) (by decide)) (fun x hx k hk e => by
            obtain ⟨c, hc⟩ := elemAt h.ws e
            obtain ⟨i, hi⟩ := List.mem_iff_getElem?.1 hx
            obtain ⟨b, -, hb⟩ := h.rc.get hi
            exact absurd (hb.ne_cells hk hc) (by decide))).turn t (fun k hk e => n1 (by rw [hk, e])) (fun x hx k hk e => n5 x hx (by rw [hk, e]))
          gs := SliceAt.turn (SliceAt.turn h.gs ht fun k hk e => by obtain ⟨c, hc⟩ := elemAt h.ws e; exact absurd (SliceAt.elem h.gs hk hc) (by decide)) t fun k hk e => n2 (by rw [hk, e])
          ws := SliceAt.turn hv t fun k hk e => m4 (by rw [hk, e])
          os := SliceAt.turn (SliceAt.turn h.os ht fun k hk e => by obtain ⟨c, hc⟩ := elemAt h.ws e; exact absurd (SliceAt.elem h.os hk hc) (by decide)) t fun k hk e => n4 (by rw [hk, e])
          ag := h.ag, ao := h.ao
          aw := fun k hk => by
            rcases hw with hw | hw
            · exact h.aw k (by rw [← hw, hk])
            · rw [hk] at hw; cases hw; exact hz
          old := (h.old.trans (Turn.below (ht.mono fun k _ e => h.aw k e) hz)).setCell (p := ⟨pb, 2, none⟩) h.pbz _, pbz := h.pbz }
end
end Go.Sto
