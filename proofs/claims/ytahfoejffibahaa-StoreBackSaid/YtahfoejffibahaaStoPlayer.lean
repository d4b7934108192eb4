/-
  A player in memory: its block of four cells, three slices of its own, and the store that it plays on.
-/
import Derived.Test.YtahfoejffibahaaStoTI
namespace Go.Sto
open Go.Own Go.RowKit Go.Proofs

/-- Labels of a caller's own blocks: 1 the player's, 2 to 4 the rows of what calls gave, took, and of what is live, 5 and 6 rows that are being appended; 0 no such block. -/
abbrev Lab := Nat → Nat
def relab (m : Lab) (a b x : Nat) : Lab := fun k => if a ≤ k ∧ k < b then x else m k
theorem relab_old (m : Lab) {a b x k : Nat} (h : k < a) : relab m a b x k = m k := by unfold relab; rw [if_neg (by omega)]
theorem relab_new (m : Lab) {a b x k : Nat} (h : a ≤ k) (h' : k < b) : relab m a b x k = x := by unfold relab; rw [if_pos ⟨h, h'⟩]

def SliceL (m : Lab) (x : Nat) (w : World) (v : Value) (l : List Int) : Prop := SliceAt w 3 1 v (icells l) ∧ ∀ b, v.ownBlock = some b → m b = x

structure PM (w0 : World) (g : Ghost) (pb : Nat) (S : St) (m : Lab) (bg bt bl gv tv lv : Value) (gave took live : List Int) (w : World) : Prop where
  repo : Repo g S w
  blk : w.heap[pb]? = some (.cells #[.pointer (some ⟨g.s, 0, none⟩), bg, bt, bl] 73 (0, 0))
  lp : m pb = 1
  gs : SliceL m 2 w gv gave
  ts : SliceL m 3 w tv took
  ls : SliceL m 4 w lv live
  own : ∀ k, m k ≠ 0 → (g.ρ k).1 = 0 ∧ w0.heap.size ≤ k
  fresh : ∀ k, w.heap.size ≤ k → m k = 0
  old : Old w0 w
  tags : ∀ k, k < w0.heap.size → (g.ρ k).1 = 0

section
variable {w0 w w' : World} {g g' : Ghost} {pb : Nat} {S S' : St} {m m' : Lab} {bg bt bl gv tv lv v' : Value} {gave took live l : List Int}

theorem SliceL.keep {x : Nat} {v : Value} (h : SliceL m x w v l) (hb : ∀ k, k < w.heap.size → m k = x → w'.heap[k]? = w.heap[k]?) (hm : ∀ k, k < w.heap.size → m' k = m k) : SliceL m' x w' v l :=
  ⟨h.1.keep fun k hk => hb k (h.1.lt k hk) (h.2 k hk), fun k hk => (hm k (h.1.lt k hk)).trans (h.2 k hk)⟩

/-- A call on the store. -/
theorem PM.step (h : PM w0 g pb S m bg bt bl gv tv lv gave took live w) (r : Repo g' S' w') (s : Step g g' w w') : PM w0 g' pb S' m bg bt bl gv tv lv gave took live w' := by
  have hz := h.old.size
  have kp : ∀ k, k < w.heap.size → m k ≠ 0 → w'.heap[k]? = w.heap[k]? := fun k hk hm => s.turn.block k hk fun hh => hh (h.own k hm).1
  have hpb := heap_lt h.blk
  exact { repo := r
          blk := by rw [kp pb hpb (by rw [h.lp]; decide), s.s]; exact h.blk
          lp := h.lp
          gs := h.gs.keep (fun k hk hx => kp k hk (by rw [hx]; decide)) (fun _ _ => rfl)
          ts := h.ts.keep (fun k hk hx => kp k hk (by rw [hx]; decide)) (fun _ _ => rfl)
          ls := h.ls.keep (fun k hk hx => kp k hk (by rw [hx]; decide)) (fun _ _ => rfl)
          own := fun k hm => by
            have hk : k < w.heap.size := by
              rcases Nat.lt_or_ge k w.heap.size with q | q
              · exact q
              · exact absurd (h.fresh k q) hm
            rw [s.tags k hk]; exact h.own k hm
          fresh := fun k hk => h.fresh k (Nat.le_trans s.turn.size hk)
          old := ⟨s.turn.os.trans h.old.os, s.turn.tape.trans h.old.tape, s.turn.output.trans h.old.output, Nat.le_trans hz s.turn.size, fun k hk hn => by
            rw [s.turn.block k (by omega) (fun hh => hh (h.tags k (by omega)))]
            exact h.old.block k hk hn⟩
          tags := fun k hk => by rw [s.tags k (by omega)]; exact h.tags k hk }

theorem PM.below (h : PM w0 g pb S m bg bt bl gv tv lv gave took live w) (hB : Below w.heap.size w w') : PM w0 g pb S m bg bt bl gv tv lv gave took live w' :=
  h.step ⟨h.repo.rep.below hB (Nat.le_refl _), h.repo.ok⟩ (Step.bel hB)

theorem PM.drew (h : PM w0 g pb S m bg bt bl gv tv lv gave took live w) : PM w0 g pb S m bg bt bl gv tv lv gave took live w.drew := h.below (Below.refl _ w).drew

/-- A caller's own blocks of one label have turned, and new ones got it. -/
theorem PM.turn (h : PM w0 g pb S m bg bt bl gv tv lv gave took live w) (x : Nat) (hx : x ≠ 0) (ht : Turn (fun k => m k = x ∨ w.heap.size ≤ k) w w')
    {bg' bt' bl' gv' tv' lv' : Value} {gave' took' live' : List Int}
    (hblk : w'.heap[pb]? = some (.cells #[.pointer (some ⟨g.s, 0, none⟩), bg', bt', bl'] 73 (0, 0)))
    (h2 : (x ≠ 2 ∧ gv' = gv ∧ gave' = gave) ∨ SliceL (relab m w.heap.size w'.heap.size x) 2 w' gv' gave')
    (h3 : (x ≠ 3 ∧ tv' = tv ∧ took' = took) ∨ SliceL (relab m w.heap.size w'.heap.size x) 3 w' tv' took')
    (h4 : (x ≠ 4 ∧ lv' = lv ∧ live' = live) ∨ SliceL (relab m w.heap.size w'.heap.size x) 4 w' lv' live') :
    PM w0 g pb S (relab m w.heap.size w'.heap.size x) bg' bt' bl' gv' tv' lv' gave' took' live' w' := by
  have hz := h.old.size
  have hsz := ht.size
  have old : ∀ k, k < w.heap.size → relab m w.heap.size w'.heap.size x k = m k := fun k hk => relab_old m hk
  have kp : ∀ k, k < w.heap.size → m k ≠ x → w'.heap[k]? = w.heap[k]? := fun k hk hm => ht.block k hk fun hh => by
    rcases hh with hh | hh
    · exact hm hh
    · omega
  exact { repo := ⟨h.repo.rep.keep ht (fun k hk hT => by
            rcases hT with hT | hT
            · exact (h.own k (by rw [hT]; exact hx)).1
            · omega), h.repo.ok⟩
          blk := hblk
          lp := (old pb (heap_lt h.blk)).trans h.lp
          gs := by
            rcases h2 with ⟨q, rfl, rfl⟩ | q
            · exact h.gs.keep (fun k hk hh => kp k hk (by rw [hh]; exact fun e => q e.symm)) old
            · exact q
          ts := by
            rcases h3 with ⟨q, rfl, rfl⟩ | q
            · exact h.ts.keep (fun k hk hh => kp k hk (by rw [hh]; exact fun e => q e.symm)) old
            · exact q
          ls := by
            rcases h4 with ⟨q, rfl, rfl⟩ | q
            · exact h.ls.keep (fun k hk hh => kp k hk (by rw [hh]; exact fun e => q e.symm)) old
            · exact q
          own := fun k hm => by
            rcases Nat.lt_or_ge k w.heap.size with q | q
            · rw [old k q] at hm; exact h.own k hm
            · exact ⟨h.repo.rep.fresh k q, by omega⟩
          fresh := fun k hk => by
            unfold relab
            rw [if_neg (by omega)]
            exact h.fresh k (by omega)
          old := ⟨ht.os.trans h.old.os, ht.tape.trans h.old.tape, ht.output.trans h.old.output, Nat.le_trans hz hsz, fun k hk hn => by
            rw [ht.block k (by omega) (fun hT => by
              rcases hT with hT | hT
              · exact hn (h.own k (by rw [hT]; exact hx)).2
              · omega)]
            exact h.old.block k hk hn⟩
          tags := h.tags }

theorem PM.pb_keep (h : PM w0 g pb S m bg bt bl gv tv lv gave took live w) (x : Nat) (hx : x ≠ 1) (ht : Turn (fun k => m k = x ∨ w.heap.size ≤ k) w w') : w'.heap[pb]? = some (.cells #[.pointer (some ⟨g.s, 0, none⟩), bg, bt, bl] 73 (0, 0)) := by
  rw [ht.block pb (heap_lt h.blk) fun hh => by
    rcases hh with hh | hh
    · rw [h.lp] at hh; exact hx hh.symm
    · have := heap_lt h.blk; omega]
  exact h.blk

theorem SliceL.grown {x : Nat} {v : Value} {l' : List Int} (h : SliceL m x w v l) (h1 : SliceAt w' 3 1 v' (icells l')) (hw : v'.ownBlock = v.ownBlock ∨ v'.ownBlock = some w.heap.size) : SliceL (relab m w.heap.size w'.heap.size x) x w' v' l' := by
  refine ⟨h1, fun b hb => ?_⟩
  rcases hw with q | q
  · rw [q] at hb
    rw [relab_old m (h.1.lt b hb)]; exact h.2 b hb
  · have hl := h1.lt b hb
    rw [q] at hb
    cases hb
    exact relab_new m (Nat.le_refl _) hl

/-- append to what is live, to what calls gave, to what they took. -/
theorem PM.app_l (h : PM w0 g pb S m bg bt bl gv tv lv gave took live w) (ht : Turn (fun k => lv.ownBlock = some k) w w') (hv : SliceAt w' 3 1 v' (icells l)) (hw : v'.ownBlock = lv.ownBlock ∨ v'.ownBlock = some w.heap.size) :
    PM w0 g pb S (relab m w.heap.size w'.heap.size 4) bg bt bl gv tv v' gave took l w' := by
  have ht' : Turn (fun k => m k = 4 ∨ w.heap.size ≤ k) w w' := ht.mono fun k _ e => .inl (h.ls.2 k e)
  exact h.turn 4 (by decide) ht' (h.pb_keep 4 (by decide) ht') (.inl ⟨by decide, rfl, rfl⟩) (.inl ⟨by decide, rfl, rfl⟩) (.inr (h.ls.grown hv hw))
theorem PM.app_g (h : PM w0 g pb S m bg bt bl gv tv lv gave took live w) (ht : Turn (fun k => gv.ownBlock = some k) w w') (hv : SliceAt w' 3 1 v' (icells l)) (hw : v'.ownBlock = gv.ownBlock ∨ v'.ownBlock = some w.heap.size) :
    PM w0 g pb S (relab m w.heap.size w'.heap.size 2) bg bt bl v' tv lv l took live w' := by
  have ht' : Turn (fun k => m k = 2 ∨ w.heap.size ≤ k) w w' := ht.mono fun k _ e => .inl (h.gs.2 k e)
  exact h.turn 2 (by decide) ht' (h.pb_keep 2 (by decide) ht') (.inr (h.gs.grown hv hw)) (.inl ⟨by decide, rfl, rfl⟩) (.inl ⟨by decide, rfl, rfl⟩)
theorem PM.app_t (h : PM w0 g pb S m bg bt bl gv tv lv gave took live w) (ht : Turn (fun k => tv.ownBlock = some k) w w') (hv : SliceAt w' 3 1 v' (icells l)) (hw : v'.ownBlock = tv.ownBlock ∨ v'.ownBlock = some w.heap.size) :
    PM w0 g pb S (relab m w.heap.size w'.heap.size 3) bg bt bl gv v' lv gave l live w' := by
  have ht' : Turn (fun k => m k = 3 ∨ w.heap.size ≤ k) w w' := ht.mono fun k _ e => .inl (h.ts.2 k e)
  exact h.turn 3 (by decide) ht' (h.pb_keep 3 (by decide) ht') (.inl ⟨by decide, rfl, rfl⟩) (.inr (h.ts.grown hv hw)) (.inl ⟨by decide, rfl, rfl⟩)

/-- A cell of the player's block is written. -/
theorem PM.sto (h : PM w0 g pb S m bg bt bl gv tv lv gave took live w) (i : Nat) (v : Value) {bg' bt' bl' : Value}
    (hc : (#[.pointer (some ⟨g.s, 0, none⟩), bg, bt, bl] : Array Value).setIfInBounds i v = #[.pointer (some ⟨g.s, 0, none⟩), bg', bt', bl']) :
    ∃ m', PM w0 g pb S m' bg' bt' bl' gv tv lv gave took live (w.setCell ⟨pb, i, none⟩ v) :=
  ⟨_, h.turn 1 (by decide) ((Turn.refl _ w).setCell (p := ⟨pb, i, none⟩) (fun _ => .inl h.lp) v) (by rw [heap_setCell_self v h.blk, hc]) (.inl ⟨by decide, rfl, rfl⟩) (.inl ⟨by decide, rfl, rfl⟩) (.inl ⟨by decide, rfl, rfl⟩)⟩
end
end Go.Sto
