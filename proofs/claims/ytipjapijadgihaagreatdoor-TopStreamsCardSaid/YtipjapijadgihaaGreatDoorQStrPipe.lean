/-
  The opening of a pipe's ends, walked.
-/
import Derived.Test.YtipjapijadgihaaGreatDoorQStrOpen1
set_option linter.unusedVariables false

namespace Go.Str
open Go.Own Go.RowKit Go.Proofs

def updB {α : Type} (f : Bytes → α) (k : Bytes) (v : α) : Bytes → α := fun j => if j = k then v else f j
theorem updB_self {α : Type} (f : Bytes → α) (k : Bytes) (v : α) : updB f k v k = v := if_pos rfl
theorem updB_ne {α : Type} (f : Bytes → α) {k j : Bytes} (v : α) (h : j ≠ k) : updB f k v j = f j := if_neg h
theorem bs_inj {a b : Bytes} (h : bs a = bs b) : a = b := by
  have := congrArg (fun x : ByteArray => x.data.toList) h
  simpa using this
theorem bs_of (k : ByteArray) : bs k.data.toList = k := rfl

section
variable {g g' : Gh} {S : SS} {w w' : World}

def pCells (v : Value) (x : Pp) : Array Value := #[v, .int .i64 64, .bool x.wrote, .bool x.writing, .bool x.read, .bool x.reading]

set_option maxRecDepth 10000 in
set_option maxHeartbeats 2000000 in
theorem pipe_new (h : Rep g S w) {sb : Nat} (hs : g.s = sb) {name : Bytes} (hp : name.length ≤ 1000) (hno : ∀ q, S.pipes q = none) :
    Calls Tryz.prog 74 #[pt sb, .string (bs name), .bool false] w (OpenPost g { S with pipes := updB S.pipes name (some ⟨[], true, true, false, false⟩) } ((S.last : Int) + 1) (.en name false) w) := by
  subst hs
  obtain ⟨-, c1, -, -, -, -⟩ := s_cells h.base.sb
  have hlk : (Instr.lookup 76 (.map (some g.pm)) (.string (bs name)) true).run Tryz.prog w = .ok (.tuple #[.pointer none, .bool false]) w := by
    have hh := h.pipes.m.at.lookup_ok (P := Tryz.prog) (t := 76) (z := .pointer none) Tryz.underlying9 Tryz.underlying76 (by kernel_rfl) (k := bs name) (by rw [bs_size]; unfold maxLen; omega)
    unfold kp at hh
    rw [hno] at hh
    exact hh
  obtain ⟨nb, hnb⟩ : ∃ nb, w.heap.size = nb := ⟨_, rfl⟩
  obtain ⟨w1, hw1⟩ : ∃ w1, w.alloc (.cells #[.slice none 0 0, .int .i64 64, .bool true, .bool true, .bool false, .bool false] 106) = w1 := ⟨_, rfl⟩
  have hb1 : w1.heap[nb]? = some (.cells #[.slice none 0 0, .int .i64 64, .bool true, .bool true, .bool false, .bool false] 106 (0, 0)) := by rw [← hw1, ← hnb]; exact heap_alloc_new w _
  have hz1 : w1.heap.size = nb + 1 := by rw [← hw1]; simp [hnb]
  have T1 : Turn (fun _ => False) w w1 := by rw [← hw1]; exact (Turn.refl _ w).alloc _
  have e1 : w1.cell? ⟨g.s, 1, none⟩ = some (.map (some g.pm)) := (T1.cell (p := ⟨g.s, 1, none⟩) (fun e => e) (heap_lt h.base.sb)).trans c1
  have hM : MapST w1 g.pm (kp g S.pipes) := h.pipes.m.keep (T1.block _ h.pipes.m.lt (fun e => e))
  have H := Lib.hid (And.intro h (And.intro hno (And.intro hb1 (And.intro hz1 (And.intro T1 (And.intro hnb hM))))))
  have HW := Lib.hid hw1
  clear h hno hb1 hz1 T1 hM hw1
  go_enter Tryz.func74, Tryz.ntmps74
  go_upto_region 9 with fail
  rw [HW.out]
  clear HW c1 hlk hnb
  go_wp2_with (
    refine wpList_updateST rfl _ _ _ rfl Tryz.underlying9 Tryz.underlying76 rfl H.out.2.2.2.2.2.2 rfl (by rw [bs_size]; unfold maxLen; omega) rfl ?_
    intro w2 hM2 ht2 hs2
    have HM := Lib.hid (And.intro hM2 (And.intro ht2 hs2))
    clear hM2 ht2 hs2)
  go_ret2
  have h := H.out.1
  have hno := H.out.2.1
  have hz1 := H.out.2.2.2.1
  have hnb := H.out.2.2.2.2.2.1
  have hz2 : w2.heap.size = nb + 1 := HM.out.2.2.trans hz1
  have hpm := h.pipes.m.lt
  have T2 : Turn (fun k => k = g.pm) w (w2.alloc (.cells #[.string (bs name), pt nb, .bool false] 104)) := ((H.out.2.2.2.2.1.mono fun _ _ e => e.elim).trans HM.out.2.1).alloc _
  obtain ⟨i, hi⟩ : ∃ i : Int, (S.last : Int) + 1 = i := ⟨_, rfl⟩
  have hri : S.handles i = none := by rw [← hi]; exact h.none_next
  obtain ⟨ρ', hρ⟩ : ∃ ρ' : Tags, (fun k => if k = nb then ((5, 0) : Tag) else if k = nb + 1 then (2, i) else g.ρ k) = ρ' := ⟨_, rfl⟩
  have hr : ∀ k, k < w.heap.size → ρ' k = g.ρ k := fun k hk => by rw [← hρ]; dsimp only; rw [if_neg (by omega), if_neg (by omega)]
  have hr5 : ρ' nb = (5, 0) := by rw [← hρ]; exact if_pos rfl
  have hr2 : ρ' (nb + 1) = (2, i) := by rw [← hρ]; dsimp only; rw [if_neg (by omega), if_pos rfl]
  have hs : Same g { g with hb := upd g.hb i (nb + 1), pb := updB g.pb name nb, ρ := ρ' } w (w2.alloc (.cells #[.string (bs name), pt nb, .bool false] 104)) (fun t => t = (1, 2)) :=
    ⟨fun k hk hd => T2.block k hk (fun e => hd (by rw [e, h.base.tp])), fun k hk _ => hr k hk⟩
  have hbn : (w2.alloc (.cells #[.string (bs name), pt nb, .bool false] 104)).heap[nb]? = some (.cells #[.slice none 0 0, .int .i64 64, .bool true, .bool true, .bool false, .bool false] 106 (0, 0)) := by
    rw [heap_alloc_lt _ _ _ (by omega), HM.out.2.1.block nb (by omega) (by omega)]
    exact H.out.2.2.1
  refine ⟨{ g with hb := upd g.hb i (nb + 1), pb := updB g.pb name nb, ρ := ρ' }, ?_, ?_, ?_, ?_, ?_⟩
  · simp only [hi, hval, upd_self]
    rw [← hz2]
    rfl
  · refine ⟨h.base.same hs (by simp) (fun k hk _ => hr k hk) (fun t h0 e => ?_) (fun k hk => ?_) ⟨rfl, rfl, rfl, rfl, rfl⟩, h.files.same hs h.base.tf (by simp) (by simp) rfl rfl, ⟨?_, fun q x hq => ?_, fun p q x y hp hq => ?_⟩, assigns_same h.assigns hs h.base.ta (by simp) rfl,
      h.handles.same hs h.base.th (by simp) (fun j _ => ⟨by simp, by simp⟩) (by simp) rfl (fun j hj => upd_ne _ _ (fun e => by rw [e] at hj; exact hj hri)) (fun j nm r hj => ?_), fun j nm r hj => ?_⟩
    · rw [e] at h0; cases h0
    · rw [← hρ]
      have : nb + 2 ≤ k := by simpa [hz2] using hk
      dsimp only
      rw [if_neg (by omega), if_neg (by omega)]
      exact h.base.fresh k (by omega)
    · have : kp { g with hb := upd g.hb i (nb + 1), pb := updB g.pb name nb, ρ := ρ' } (updB S.pipes name (some ⟨[], true, true, false, false⟩)) = updT (kp g S.pipes) (bs name) (some (pt nb)) := by
        funext k
        by_cases e : k = bs name
        · subst e
          rw [upd_selfT]
          show (updB S.pipes name _ name).map _ = _
          rw [updB_self]
          show some (pt (updB g.pb name nb name)) = _
          rw [updB_self]
        · rw [upd_neT _ _ e]
          have e' : k.data.toList ≠ name := fun e2 => e (by rw [← e2])
          show (updB S.pipes name _ k.data.toList).map _ = (S.pipes k.data.toList).map _
          rw [updB_ne _ _ e', hno]
          rfl
      rw [this]
      exact HM.out.1.keep (heap_alloc_lt _ _ _ HM.out.1.lt)
    · by_cases e : q = name
      · subst e
        have hq' : updB S.pipes q (some (⟨[], true, true, false, false⟩ : Pp)) q = some x := hq
        rw [updB_self] at hq'
        cases hq'
        show ρ' (updB g.pb q nb q) = (5, 0) ∧ ∃ v, (w2.alloc _).heap[updB g.pb q nb q]? = _ ∧ _
        rw [updB_self]
        exact ⟨hr5, _, hbn, SliceT.nil _ _ _⟩
      · have hq' : updB S.pipes name (some (⟨[], true, true, false, false⟩ : Pp)) q = some x := hq
        rw [updB_ne _ _ e, hno] at hq'
        cases hq'
    · have hall : ∀ p x, updB S.pipes name (some (⟨[], true, true, false, false⟩ : Pp)) p = some x → p = name := fun p x hp => by
        by_cases e : p = name
        · exact e
        · rw [updB_ne _ _ e, hno] at hp; cases hp
      rw [hall p x hp, hall q y hq]
    · obtain ⟨x, hx⟩ := h.ends j nm r hj
      rw [hno] at hx; cases hx
    · obtain ⟨x, hx⟩ := h.ends j nm r hj
      rw [hno] at hx; cases hx
  · simp only [hi, upd_self]
    exact hr2
  · rw [hi]
    show (w2.alloc _).heap[upd g.hb i (nb + 1) i]? = some (.cells #[.string (bs name), pt (updB g.pb name nb name), .bool false] 104 (0, 0))
    rw [upd_self, updB_self, ← hz2]
    exact heap_alloc_new w2 _
  · exact ⟨T2.mono fun k _ e => by rw [e, h.base.tp]; simp, fun k hk => by show (ρ' k).1 = 0 ↔ _; rw [hr k hk], rfl⟩

/-- A pipe has turned. -/
theorem Rep.set_pipe (h : Rep g S w) {name : Bytes} {x x' : Pp} {v' : Value} {ρ' : Tags} (hx : S.pipes name = some x) (ht : Turn (fun k => k = g.pb name ∨ g.ρ k = (6, 0)) w w') (hr : ∀ k, k < w.heap.size → ρ' k = g.ρ k) (hf : ∀ k, w'.heap.size ≤ k → (ρ' k).1 = 0)
    (hc : w'.heap[g.pb name]? = some (.cells #[v', .int .i64 64, .bool x'.wrote, .bool x'.writing, .bool x'.read, .bool x'.reading] 106 (0, 0))) (hv : SliceT ρ' (6, 0) w' v' (bcells x'.b)) :
    Rep { g with ρ := ρ' } { S with pipes := updB S.pipes name (some x') } w' ∧ Step g { g with ρ := ρ' } w w' := by
  obtain ⟨t5, v, hb, hs6⟩ := h.pipes.pipe name x hx
  have hs : Same g { g with ρ := ρ' } w w' (fun t => t = (5, 0) ∨ t = (6, 0)) := ⟨fun k hk hd => ht.block k hk (fun e => hd (by rcases e with rfl | e; exact .inl t5; exact .inr e)), fun k hk _ => hr k hk⟩
  have hT : ∀ k, (k = g.pb name ∨ g.ρ k = (6, 0)) → (g.ρ k).1 ≠ 0 := fun k e => by
    rcases e with rfl | e
    · rw [t5]; decide
    · rw [e]; decide
  refine ⟨⟨h.base.same hs (by simp) (fun k hk _ => hr k hk) (fun t h0 e => by rcases e with rfl | rfl <;> cases h0) hf ⟨rfl, rfl, rfl, rfl, rfl⟩, h.files.same hs h.base.tf (by simp) (by simp) rfl rfl, ⟨?_, fun q y hq => ?_, fun p q y z hp hq => ?_⟩, assigns_same h.assigns hs h.base.ta (by simp) rfl,
    h.handles.same hs h.base.th (by simp) (fun j _ => ⟨by simp, by simp⟩) (by simp) rfl (fun _ _ => rfl) (fun _ _ _ _ => rfl), fun j nm r hj => ?_⟩, ⟨ht.mono fun k _ e => hT k e, fun k hk => by show (ρ' k).1 = 0 ↔ _; rw [hr k hk], rfl⟩⟩
  · have : kp { g with ρ := ρ' } (updB S.pipes name (some x')) = kp g S.pipes := by
      funext k
      show (updB S.pipes name (some x') k.data.toList).map _ = (S.pipes k.data.toList).map _
      by_cases e : k.data.toList = name
      · rw [e, updB_self, hx]
        rfl
      · rw [updB_ne _ _ e]
    rw [this]
    exact h.pipes.m.keep (ht.block _ h.pipes.m.lt (fun e => by
      have t2 := h.base.tp
      rcases e with e | e
      · rw [e, t5] at t2; cases t2
      · rw [e] at t2; cases t2))
  · have hq' : updB S.pipes name (some x') q = some y := hq
    by_cases e : q = name
    · subst e
      rw [updB_self] at hq'
      cases hq'
      exact ⟨(hr _ (heap_lt hb)).trans t5, v', hc, hv⟩
    · rw [updB_ne _ _ e] at hq'
      exact absurd (h.pipes.one q name y x hq' hx) e
  · have hall : ∀ p y, updB S.pipes name (some x') p = some y → p = name := fun p y hp => by
      by_cases e : p = name
      · exact e
      · rw [updB_ne _ _ e] at hp
        exact absurd (h.pipes.one p name y x hp hx) e
    rw [hall p y hp, hall q z hq]
  · obtain ⟨y, hy⟩ := h.ends j nm r hj
    have e := h.pipes.one nm name y x hy hx
    subst e
    exact ⟨x', updB_self _ _ _⟩

/-- The map of the pipes has turned, and holds what it held. -/
theorem Rep.remap (h : Rep g S w) (hM : MapST w' g.pm (kp g S.pipes)) (ht : Turn (fun k => k = g.pm) w w') : Rep g S w' ∧ Step g g w w' := by
  have hs : Same g g w w' (fun t => t = (1, 2)) := ⟨fun k hk hd => ht.block k hk (fun e => hd (by rw [e, h.base.tp])), fun _ _ _ => rfl⟩
  refine ⟨⟨h.base.same hs (by simp) (fun _ _ _ => rfl) (fun t h0 e => by rw [e] at h0; cases h0) (fun k hk => h.base.fresh k (by have := ht.size; omega)) ⟨rfl, rfl, rfl, rfl, rfl⟩, h.files.same hs h.base.tf (by simp) (by simp) rfl rfl, ⟨hM, fun q y hq => ?_, h.pipes.one⟩, assigns_same h.assigns hs h.base.ta (by simp) rfl,
    h.handles.same hs h.base.th (by simp) (fun j _ => ⟨by simp, by simp⟩) (by simp) rfl (fun _ _ => rfl) (fun _ _ _ _ => rfl), h.ends⟩, ⟨ht.mono fun k _ e => by rw [e, h.base.tp]; decide, fun _ _ => Iff.rfl, rfl⟩⟩
  obtain ⟨t5, v, hb, hs6⟩ := h.pipes.pipe q y hq
  exact ⟨t5, v, by rw [hs.blk _ (heap_lt hb) (by rw [t5]; simp)]; exact hb, hs6.same hs (by simp)⟩

/-- The end of an opening: the handle of a pipe's end. -/
theorem open_en_end (h : Rep g S w) {name : Bytes} {r : Bool} {x : Pp} (_hx : S.pipes name = some x) :
    OpenPost g S ((S.last : Int) + 1) (.en name r) w (.returned (.tuple #[.iface 100 (pt w.heap.size), .int .i64 0])) (w.alloc (.cells #[.string (bs name), pt (g.pb name), .bool r] 104)) := by
  have T2 : Turn (fun _ => False) w (w.alloc (.cells #[.string (bs name), pt (g.pb name), .bool r] 104)) := (Turn.refl _ w).alloc _
  have hr : ∀ k, k < w.heap.size → newTags g.ρ w.heap.size w.heap.size (4, 0) ((S.last : Int) + 1) k = g.ρ k := fun k hk => newTags_old hk (Nat.le_refl _)
  refine ⟨{ g with hb := upd g.hb ((S.last : Int) + 1) w.heap.size, ρ := newTags g.ρ w.heap.size w.heap.size (4, 0) ((S.last : Int) + 1) }, ?_, h.fresh T2 hr (fun k hk => ?_) h.none_next, ?_, ?_, step_fresh T2 hr⟩
  · simp only [hval, upd_self]
  · rw [newTags_far (by simp at hk; omega)]
    exact h.base.fresh k (by simp at hk; omega)
  · simp only [upd_self]
    exact newTags_self
  · show (w.alloc _).heap[upd g.hb ((S.last : Int) + 1) w.heap.size ((S.last : Int) + 1)]? = _
    rw [upd_self]
    exact heap_alloc_new w _

theorem OpenPost.after {S' : SS} {i : Int} {x : Hd} {e : Ending} {w2 : World} {g1 : Gh} (hs : Step g g1 w w') (h : OpenPost g1 S' i x w' e w2) : OpenPost g S' i x w e w2 := by
  obtain ⟨g', h1, h2, h3, h4, h5⟩ := h
  exact ⟨g', h1, h2, h3, h4, hs.trans h5⟩

set_option maxRecDepth 10000 in
set_option maxHeartbeats 2000000 in
theorem pipe_old (h : Rep g S w) {sb : Nat} (hs : g.s = sb) {name : Bytes} (hp : name.length ≤ 1000) {x : Pp} (hx : S.pipes name = some x) (hrd : x.reading = false) :
    Calls Tryz.prog 74 #[pt sb, .string (bs name), .bool true] w (OpenPost g { S with pipes := updB S.pipes name (some { x with read := true, reading := true }) } ((S.last : Int) + 1) (.en name true) w) := by
  subst hs
  obtain ⟨-, c1, -, -, -, -⟩ := s_cells h.base.sb
  obtain ⟨t5, v, hb, hs6⟩ := h.pipes.pipe name x hx
  rw [hrd] at hb
  have hlk : (Instr.lookup 76 (.map (some g.pm)) (.string (bs name)) true).run Tryz.prog w = .ok (.tuple #[pt (g.pb name), .bool true]) w := by
    have hh := h.pipes.m.at.lookup_ok (P := Tryz.prog) (t := 76) (z := .pointer none) Tryz.underlying9 Tryz.underlying76 (by kernel_rfl) (k := bs name) (by rw [bs_size]; unfold maxLen; omega)
    unfold kp at hh
    rw [show (bs name).data.toList = name from rfl, hx] at hh
    exact hh
  obtain ⟨nb, hnb⟩ : ∃ nb, g.pb name = nb := ⟨_, rfl⟩
  rw [hnb] at hlk hb t5
  have d4 : w.cell? ⟨nb, 4, none⟩ = some (.bool x.read) := cell_at hb rfl
  have d5 : w.cell? ⟨nb, 5, none⟩ = some (.bool false) := cell_at hb rfl
  have df : ∀ i, w.frozen? ⟨nb, i, none⟩ = false := fun i => frozen_at hb
  have hne : nb ≠ g.s := fun e => by have := h.base.ts; rw [← e, t5] at this; cases this
  obtain ⟨w1, hw1⟩ : ∃ w1, (w.setCell ⟨nb, 4, none⟩ (.bool true)).setCell ⟨nb, 5, none⟩ (.bool true) = w1 := ⟨_, rfl⟩
  have T1 : Turn (fun k => k = nb) w w1 := by rw [← hw1]; exact ((Turn.refl (fun k => k = nb) w).setCell (p := ⟨nb, 4, none⟩) (fun _ => rfl) _).setCell (p := ⟨nb, 5, none⟩) (fun _ => rfl) _
  have hb1 : w1.heap[nb]? = some (.cells #[v, .int .i64 64, .bool x.wrote, .bool x.writing, .bool true, .bool true] 106 (0, 0)) := by
    rw [← hw1]
    exact heap_setCell_self _ (heap_setCell_self _ hb)
  have hz1 : w1.heap.size = w.heap.size := by rw [← hw1]; simp
  have hP := h.set_pipe (x' := { x with read := true, reading := true }) (v' := v) (ρ' := g.ρ) hx (T1.mono fun k _ e => .inl (by rw [e, hnb])) (fun _ _ => rfl) (fun k hk => h.base.fresh k (by omega)) (by rw [hnb]; exact hb1) (by
    refine ⟨hs6.1.turn T1 (fun k hk e => ?_), hs6.2⟩
    have := hs6.2 k hk
    rw [e, t5] at this; cases this)
  have e1 : w1.cell? ⟨g.s, 1, none⟩ = some (.map (some g.pm)) := (T1.cell (p := ⟨g.s, 1, none⟩) (fun e => hne e.symm) (heap_lt h.base.sb)).trans c1
  have H := Lib.hid (And.intro hP (And.intro hnb hx))
  have HW := Lib.hid hw1
  clear h hx hrd t5 hb hs6 T1 hb1 hz1 hP hw1 hne
  go_enter Tryz.func74, Tryz.ntmps74
  go_upto_region 9 with fail
  rw [HW.out]
  clear HW c1 d4 d5 df hlk
  go_wp2_with (
    refine wpList_updateST rfl _ _ _ rfl Tryz.underlying9 Tryz.underlying76 rfl H.out.1.1.pipes.m rfl (by rw [bs_size]; unfold maxLen; omega) rfl ?_
    intro w2 hM2 ht2 hs2
    have HM := Lib.hid (And.intro hM2 (And.intro ht2 hs2))
    clear hM2 ht2 hs2)
  go_ret2
  have hR := H.out.1.1
  have hM : MapST w2 g.pm (kp { g with ρ := g.ρ } (updB S.pipes name (some { x with read := true, reading := true }))) := by
    have h0 := HM.out.1
    have e : updT (kp { g with ρ := g.ρ } (updB S.pipes name (some { x with read := true, reading := true }))) (bs name) (some (.pointer (some ⟨nb, 0, none⟩))) = kp { g with ρ := g.ρ } (updB S.pipes name (some { x with read := true, reading := true })) := by
      funext k
      by_cases e : k = bs name
      · subst e
        rw [upd_selfT]
        show _ = (updB S.pipes name _ name).map _
        rw [updB_self]
        show _ = some (pt (g.pb name))
        rw [H.out.2.1]
      · rw [upd_neT _ _ e]
    rw [← e]
    exact h0
  obtain ⟨R2, S2⟩ := hR.remap hM HM.out.2.1
  have := open_en_end R2 (name := name) (r := true) (updB_self _ _ _)
  rw [show ({ g with ρ := g.ρ } : Gh).pb name = nb from H.out.2.1] at this
  exact (this.after S2).after H.out.1.2
end
end Go.Str
