/-
  A player in memory: its block of four cells, three slices of its own, and the store that it plays on.
-/
import Derived.Test.YtahfoejffibahaaQStoTI
set_option linter.unusedVariables false

namespace Go.Sto
open Go.Own Go.RowKit Go.Proofs

/-- Labels of a caller's own blocks: 1 the player's, 2 to 4 the rows of what calls gave, took, and of what is live, 5 and 6 rows that are being appended; 0 no such block. -/
abbrev Lab := Nat → Nat
def relab (m : Lab) (a b x : Nat) : Lab := fun k => if a ≤ k ∧ k < b then x else m k
theorem relab_old (m : Lab) {a b x k : Nat} (h : k < a) : relab m a b x k = m k := by unfold relab; rw [if_neg (by omega)]
theorem relab_new (m : Lab) {a b x k : Nat} (h : a ≤ k) (h' : k < b) : relab m a b x k = x := by unfold relab; rw [if_pos ⟨h, h'⟩]

def SliceL (m : Lab) (x : Nat) (w : World) (v : Value) (l : List Int) : Prop := SliceAt w 3 1 v (icells l) ∧ ∀ b, v.ownBlock = some b → m b = x

structure PM (w0 : World) (g : Ghost) (pb : Nat) (S : St) (m : Lab) (bg bt bl gv tv lv : Value) (gave took live : List Int) (w : World) : Prop where
  repo : Repo g S w
  blk : w.heap[pb]? = some (.cells #[.pointer (some ⟨g.s, 0, none⟩), bg, bt, bl] 73 (0, 0))
  lp : m pb = 1
  gs : SliceL m 2 w gv gave
  ts : SliceL m 3 w tv took
  ls : SliceL m 4 w lv live
  own : ∀ k, m k ≠ 0 → (g.ρ k).1 = 0 ∧ w0.heap.size ≤ k
  fresh : ∀ k, w.heap.size ≤ k → m k = 0
  old : Old w0 w
  tags : ∀ k, k < w0.heap.size → (g.ρ k).1 = 0

section
variable {w0 w w' : World} {g g' : Ghost} {pb : Nat} {S S' : St} {m m' : Lab} {bg bt bl gv tv lv v' : Value} {gave took live l : List Int}

theorem SliceL.keep {x : Nat} {v : Value} (h : SliceL m x w v l) (hb : ∀ k, k < w.heap.size → m k = x → w'.heap[k]? = w.heap[k]?) (hm : ∀ k, k < w.heap.size → m' k = m k) : SliceL m' x w' v l :=
  ⟨h.1.keep fun k hk => hb k (h.1.lt k hk) (h.2 k hk), fun k hk => (hm k (h.1.lt k hk)).trans (h.2 k hk)⟩

/-- A call on the store. -/
theorem PM.step (h : PM w0 g pb S m bg bt bl gv tv lv gave took live w) (r : Repo g' S' w') (s : Step g g' w w') : PM w0 g' pb S' m bg bt bl gv tv lv gave took live w' := by
  have hz := h.old.size
  have kp : ∀ k, k < w.heap.size → m k ≠ 0 → w'.heap[k]? = w.heap[k]? := fun k hk hm => s.turn.block k hk fun hh => hh (h.own k hm).1
  have hpb := heap_lt h.blk
  exact { repo := r
          blk := by rw [kp pb hpb (by rw [h.lp]; decide), s.s]; exact h.blk
          lp := h.lp
          gs := h.gs.keep (fun k hk hx => kp k hk (by rw [hx]; decide)) (fun _ _ => rfl)
          ts := h.ts.keep (fun k hk hx => kp k hk (by rw [hx]; decide)) (fun _ _ => rfl)
          ls := h.ls.keep (fun k hk hx => kp k hk (by rw [hx]; decide)) (fun _ _ => rfl)
          own := fun k hm => by
            have hk : k < w.heap.size := by
              rcases Nat.lt_or_ge k w.heap.size with q | q
              · exact q
              · exact absurd (h.fresh k q) hm
            rw [s.tags k hk]; exact h.own k hm
          fresh := fun k hk => h.fresh k (Nat.le_trans s.turn.size hk)
          old := ⟨s.turn.os.trans h.old.os, s.turn.tape.trans h.old.tape, s.turn.output.trans h.old.output, Nat.le_trans hz s.turn.size, fun k hk hn => by
            rw [s.turn.block k (by omega) (fun hh => hh (h.tags k (by omega)))]
            exact h.old.block k hk hn⟩
          tags := fun k hk => by rw [s.tags k (by omega)]; exact h.tags k hk }

theorem PM.below (h : PM w0 g pb S m bg bt bl gv tv lv gave took live w) (hB : Below w.heap.size w w') : PM w0 g pb S m bg bt bl gv tv lv gave took live w' :=
  h.step ⟨h.repo.rep.below hB (Nat.le_refl _), h.repo.ok⟩ (Step.bel hB)

theorem PM.drew (h : PM w0 g pb S m bg bt bl gv tv lv gave took live w) : PM w0 g pb S m bg bt bl gv tv lv gave took live w.drew := h.below (Below.refl _ w).drew

/-- A caller's own blocks of one label have turned, and new ones got it. -/
theorem PM.turn (h : PM w0 g pb S m bg bt bl gv tv lv gave took live w) (x : Nat) (hx : x ≠ 0) (ht : Turn (fun k => m k = x ∨ w.heap.size ≤ k) w w')
    {bg' bt' bl' gv' tv' lv' : Value} {gave' took' live' : List Int}
    (hblk : w'.heap[pb]? = some (.cells #[.pointer (some ⟨g.s, 0, none⟩), bg', bt', bl'] 73 (0, 0)))
    (h2 : (x ≠ 2 ∧ gv' = gv ∧ gave' = gave) ∨ SliceL (relab m w.heap.size w'.heap.size x) 2 w' gv' gave')
    (h3 : (x ≠ 3 ∧ tv' = tv ∧ took' = took) ∨ SliceL (relab m w.heap.size w'.heap.size x) 3 w' tv' took')
    (h4 : (x ≠ 4 ∧ lv' = lv ∧ live' = live) ∨ SliceL (relab m w.heap.size w'.heap.size x) 4 w' lv' live') :
    PM w0 g pb S (relab m w.heap.size w'.heap.size x) bg' bt' bl' gv' tv' lv' gave' took' live' w' := by
  have hz := h.old.size
  have hsz := ht.size
  have old : ∀ k, k < w.heap.size → relab m w.heap.size w'.heap.size x k = m k := fun k hk => relab_old m hk
  have kp : ∀ k, k < w.heap.size → m k ≠ x → w'.heap[k]? = w.heap[k]? := fun k hk hm => ht.block k hk fun hh => by
    rcases hh with hh | hh
    · exact hm hh
    · omega
  exact { repo := ⟨h.repo.rep.keep ht (fun k hk hT => by
            rcases hT with hT | hT
            · exact (h.own k (by rw [hT]; exact hx)).1
            · omega), h.repo.ok⟩
          blk := hblk
          lp := (old pb (heap_lt h.blk)).trans h.lp
          gs := by
            rcases h2 with ⟨q, rfl, rfl⟩ | q
            · exact h.gs.keep (fun k hk hh => kp k hk (by rw [hh]; exact fun e => q e.symm)) old
            · exact q
          ts := by
            rcases h3 with ⟨q, rfl, rfl⟩ | q
            · exact h.ts.keep (fun k hk hh => kp k hk (by rw [hh]; exact fun e => q e.symm)) old
            · exact q
          ls := by
            rcases h4 with ⟨q, rfl, rfl⟩ | q
            · exact h.ls.keep (fun k hk hh => kp k hk (by rw [hh]; exact fun e => q e.symm)) old
            · exact q
          own := fun k hm => by
            rcases Nat.lt_or_ge k w.heap.size with q | q
            · rw [old k q] at hm; exact h.own k hm
            · exact ⟨h.repo.rep.fresh k q, by omega⟩
          fresh := fun k hk => by
            unfold relab
            rw [if_neg (by omega)]
            exact h.fresh k (by omega)
          old := ⟨ht.os.trans h.old.os, ht.tape.trans h.old.tape, ht.output.trans h.old.output, Nat.le_trans hz hsz, fun k hk hn => by
            rw [ht.block k (by omega) (fun hT => by
              rcases hT with hT | hT
              · exact hn (h.own k (by rw [hT]; exact hx)).2
              · omega)]
            exact h.old.block k hk hn⟩
          tags := h.tags }

theorem PM.pb_keep (h : PM w0 g pb S m bg bt bl gv tv lv gave took live w) (x : Nat) (hx : x ≠ 1) (ht : Turn (fun k => m k = x ∨ w.heap.size ≤ k) w w') : w'.heap[pb]? = some (.cells #[.pointer (some ⟨g.s, 0, none⟩), bg, bt, bl] 73 (0, 0)) := by
  rw [ht.block pb (heap_lt h.blk) fun hh => by
    rcases hh with hh | hh
    · rw [h.lp] at hh; exact hx hh.symm
    · have := heap_lt h.blk; omega]
  exact h.blk

theorem SliceL.grown {x : Nat} {v : Value} {l' : List Int} (h : SliceL m x w v l) (h1 : SliceAt w' 3 1 v' (icells l')) (hw : v'.ownBlock = v.ownBlock ∨ v'.ownBlock = some w.heap.size) : SliceL (relab m w.heap.size w'.heap.size x) x w' v' l' := by
  refine ⟨h1, fun b hb => ?_⟩
  rcases hw with q | q
  · rw [q] at hb
    rw [relab_old m (h.1.lt b hb)]; exact h.2 b hb
  · have hl := h1.lt b hb
    rw [q] at hb
    cases hb
    exact relab_new m (Nat.le_refl _) hl

/-- append to what is live, to what calls gave, to what they took. -/
theorem PM.app_l (h : PM w0 g pb S m bg bt bl gv tv lv gave took live w) (ht : Turn (fun k => lv.ownBlock = some k) w w') (hv : SliceAt w' 3 1 v' (icells l)) (hw : v'.ownBlock = lv.ownBlock ∨ v'.ownBlock = some w.heap.size) :
    PM w0 g pb S (relab m w.heap.size w'.heap.size 4) bg bt bl gv tv v' gave took l w' := by
  have ht' : Turn (fun k => m k = 4 ∨ w.heap.size ≤ k) w w' := ht.mono fun k _ e => .inl (h.ls.2 k e)
  exact h.turn 4 (by decide) ht' (h.pb_keep 4 (by decide) ht') (.inl ⟨by decide, rfl, rfl⟩) (.inl ⟨by decide, rfl, rfl⟩) (.inr (h.ls.grown hv hw))
theorem PM.app_g (h : PM w0 g pb S m bg bt bl gv tv lv gave took live w) (ht : Turn (fun k => gv.ownBlock = some k) w w') (hv : SliceAt w' 3 1 v' (icells l)) (hw : v'.ownBlock = gv.ownBlock ∨ v'.ownBlock = some w.heap.size) :
    PM w0 g pb S (relab m w.heap.size w'.heap.size 2) bg bt bl v' tv lv l took live w' := by
  have ht' : Turn (fun k => m k = 2 ∨ w.heap.size ≤ k) w w' := ht.mono fun k _ e => .inl (h.gs.2 k e)
  exact h.turn 2 (by decide) ht' (h.pb_keep 2 (by decide) ht') (.inr (h.gs.grown hv hw)) (.inl ⟨by decide, rfl, rfl⟩) (.inl ⟨by decide, rfl, rfl⟩)
theorem PM.app_t (h : PM w0 g pb S m bg bt bl gv tv lv gave took live w) (ht : Turn (fun k => tv.ownBlock = some k) w w') (hv : SliceAt w' 3 1 v' (icells l)) (hw : v'.ownBlock = tv.ownBlock ∨ v'.ownBlock = some w.heap.size) :
    PM w0 g pb S (relab m w.heap.size w'.heap.size 3) bg bt bl gv v' lv gave l live w' := by
  have ht' : Turn (fun k => m k = 3 ∨ w.heap.size ≤ k) w w' := ht.mono fun k _ e => .inl (h.ts.2 k e)
  exact h.turn 3 (by decide) ht' (h.pb_keep 3 (by decide) ht') (.inl ⟨by decide, rfl, rfl⟩) (.inr (h.ts.grown hv hw)) (.inl ⟨by decide, rfl, rfl⟩)

/-- A cell of the player's block is written. -/
theorem PM.sto (h : PM w0 g pb S m bg bt bl gv tv lv gave took live w) (i : Nat) (v : Value) {bg' bt' bl' : Value}
    (hc : (#[.pointer (some ⟨g.s, 0, none⟩), bg, bt, bl] : Array Value).setIfInBounds i v = #[.pointer (some ⟨g.s, 0, none⟩), bg', bt', bl']) :
    ∃ m', PM w0 g pb S m' bg' bt' bl' gv tv lv gave took live (w.setCell ⟨pb, i, none⟩ v) :=
  ⟨_, h.turn 1 (by decide) ((Turn.refl _ w).setCell (p := ⟨pb, i, none⟩) (fun _ => .inl h.lp) v) (by rw [heap_setCell_self v h.blk, hc]) (.inl ⟨by decide, rfl, rfl⟩) (.inl ⟨by decide, rfl, rfl⟩) (.inl ⟨by decide, rfl, rfl⟩)⟩
end
end Go.Sto

/-
  told, and a player's calls of Get and Put, walked.
-/
namespace Go.Sto
open Go.Own Go.RowKit Go.Proofs

def toldM (v e : Int) : Int := if e = 0 then v else -e

theorem told_calls (v e : Int) (h0 : 0 ≤ e) (h1 : e ≤ 1000) (w : World) : Calls Try.prog 64 #[.int .i64 v, .int .i64 e] w fun x w' => x = .returned (.int .i64 (toldM v e)) ∧ w' = w := by
  by_cases he : e = 0
  · subst he
    go_enter Try.func64, Try.ntmps64
    go_wp2
    go_ret
    exact ⟨rfl, rfl⟩
  · have hb : (e == 0) = false := beq_eq_false_iff_ne.2 he
    have hw : IntKind.i64.wrap (-e) = -e := IntWalk.i64_in _ (by omega)
    have e1 : toldM v e = -e := if_neg he
    rw [e1]
    go_enter Try.func64, Try.ntmps64
    go_wp2
    go_ret
    refine ⟨?_, rfl⟩
    first | rfl | simp [hw]

/-- What a player's call makes of the store and of what is live, and what it tells. -/
def doM (S : St) (took live : List Int) (what k : Int) : St × List Int × Int :=
  if what = 0 then
    let r := get S k
    (r.1, if r.2.2 = 0 then live ++ [r.2.1] else live, toldM r.2.1 r.2.2)
  else if what = 1 then
    if k < 0 ∨ took.length ≤ k ∨ took.getD k.toNat 0 = 0 then (S, live, 0) else
    let a := took.getD k.toNat 0
    let r := put S a
    (r.1, if r.2 = 0 then live.filter (fun x => x != a) else live, toldM 0 r.2)
  else
    match live.getLast? with
    | none => (S, live, 0)
    | some b =>
      let r := grow S b k
      (r.1, if r.2.2 = 0 then live.dropLast ++ [r.2.1] else live, toldM r.2.1 r.2.2)

def DoPost (w0 : World) (g : Ghost) (pb : Nat) (gv tv : Value) (gave took : List Int) (r : St × List Int × Int) (e : Ending) (w' : World) : Prop :=
  e = .returned (.int .i64 r.2.2) ∧ ∃ g' m' lv', PM w0 g' pb r.1 m' gv tv lv' gv tv lv' gave took r.2.1 w' ∧ g'.s = g.s ∧ g'.n = g.n

theorem get_errno {n : Nat} {S : St} (_h : Ok n S) (k : Int) : 0 ≤ (get S k).2.2 ∧ (get S k).2.2 ≤ 2 := by
  unfold get
  split
  · simp
  · cases hit (fits (need k)) 0 S <;> simp

set_option maxRecDepth 100000 in
set_option maxHeartbeats 2000000 in
theorem do_get {w0 w : World} {g : Ghost} {pb : Nat} {S : St} {m : Lab} {gv tv lv : Value} {gave took live : List Int} (h : PM w0 g pb S m gv tv lv gv tv lv gave took live w) (hl : live.length ≤ 1000) (k : Int) :
    Calls Try.prog 40 #[.pointer (some ⟨pb, 0, none⟩), .int .i64 0, .int .i64 k] w (DoPost w0 g pb gv tv gave took (doM S took live 0 k)) := by
  have hb := h.blk
  have c0 : w.cell? ⟨pb, 0, none⟩ = some (.pointer (some ⟨g.s, 0, none⟩)) := cell_at hb rfl
  have hget := get_full h.repo rfl k
  have herr := get_errno h.repo.ok k
  have hdo : doM S took live 0 k = ((get S k).1, if (get S k).2.2 = 0 then live ++ [(get S k).2.1] else live, toldM (get S k).2.1 (get S k).2.2) := rfl
  obtain ⟨⟨S1, A, E⟩, hgt⟩ : ∃ r, get S k = r := ⟨_, rfl⟩
  rw [hgt] at hget herr hdo
  simp only at hget herr hdo
  have HD := Lib.hid hdo
  have H := Lib.hid h
  have HG := Lib.hid hget
  clear hget hgt hdo hb h
  go_enter Try.func40, Try.ntmps40
  go_wp2_with fail
  refine HG.out.mono ?_
  rintro e1 w1 ⟨rfl, g1, r1, s1⟩
  have h1 := H.out.step r1 s1
  by_cases hE : E = 0
  · subst hE
    have h1a := h1.below ((Below.refl w1.heap.size w1).alloc (Nat.le_refl _) (.cells #[.int .i64 A] 3))
    have c3 : w1.cell? ⟨pb, 3, none⟩ = some lv := cell_at h1.blk rfl
    have f3 : ∀ i, w1.frozen? ⟨pb, i, none⟩ = false := fun i => frozen_at h1.blk
    have hpb := heap_lt h1.blk
    obtain ⟨la, ln, lc, rfl, hll, -⟩ := h1.ls.1.form
    have H1 := Lib.hid (And.intro h1a (And.intro s1.s s1.n))
    clear h1 h1a r1 s1
    go_wp2_with (first
      | (at_builtin; refine wpList_append _ rfl _ _ 24 24 rfl 3 1 8 (.int .i64 0) Try.underlying24 (.inr ⟨_, Try.underlying24⟩) elemInt (.slice la ln lc) _ rfl H1.out.1.ls.1 _ _ _ rfl (Src.one rfl (heap_alloc_new w1 _)) (by intro u hu; simp at hu; subst hu; rfl) (by simp; omega) (by simp; omega) ?_
         intro v2 w2 hv2 ht2 hw2 hn2
         have h2 := H1.out.1.app_l ht2 (l := live ++ [A]) (by rw [icells_append]; exact hv2) hw2
         have d3 : (w2.cell? ⟨pb, 3, none⟩).isSome = true := by rw [cell_at h2.blk rfl]; rfl
         have f2 : ∀ i, w2.frozen? ⟨pb, i, none⟩ = false := fun i => frozen_at h2.blk
         have d3' : w2.cell? ⟨pb, 3, none⟩ = some (.slice la ln lc) := cell_at h2.blk rfl
         obtain ⟨m3, h3⟩ := h2.sto 3 v2 (bg' := gv) (bt' := tv) (bl' := v2) rfl
         obtain ⟨pa, pn, pc, rfl, -⟩ := hv2.form
         have H3 := Lib.hid h3
         clear h2 h3 hv2 ht2 hw2 hn2 c3 f3)
      | (go_at_call 64; refine (told_calls A 0 (by decide) (by decide) _).mono ?_; rintro e4 w4 ⟨rfl, rfl⟩))
    go_ret
    rw [HD.out, if_pos trivial]
    exact ⟨rfl, g1, m3, _, H3.out, H1.out.2.1, H1.out.2.2⟩
  · have hb : (E == 0) = false := beq_eq_false_iff_ne.2 hE
    have H1 := Lib.hid (And.intro h1 (And.intro s1.s s1.n))
    clear h1 r1 s1
    have HT := Lib.hid (told_calls A E herr.1 (by omega) w1)
    have HE := Lib.hid hE
    clear hE
    go_wp2_with (go_at_call 64; refine HT.out.mono ?_; rintro e4 w4 ⟨rfl, rfl⟩)
    go_ret
    rw [HD.out, if_neg HE.out]
    exact ⟨rfl, g1, m, lv, H1.out.1, H1.out.2.1, H1.out.2.2⟩
end Go.Sto
