/-
  open: a file for reading, a file for writing; walked.
-/
import Derived.Test.YtipjapijadgihaaGreatDoorQStrWriting
set_option linter.unusedVariables false

namespace Go.Str
open Go.Own Go.RowKit Go.Proofs

section
variable {g g' : Gh} {S : SS} {w w' : World}

theorem Rep.fresh (h : Rep g S w) {ρ' : Tags} {i : Int} {nb : Nat} (ht : Turn (fun _ => False) w w') (hr : ∀ k, k < w.heap.size → ρ' k = g.ρ k) (hf : ∀ k, w'.heap.size ≤ k → (ρ' k).1 = 0) (hi : S.handles i = none) :
    Rep { g with hb := upd g.hb i nb, ρ := ρ' } S w' := by
  have hs : Same g { g with hb := upd g.hb i nb, ρ := ρ' } w w' (fun _ => False) := ⟨fun k hk _ => ht.block k hk (fun e => e), fun k hk _ => hr k hk⟩
  exact ⟨h.base.same hs (fun e => e) (fun k hk _ => hr k hk) (fun _ _ e => e) hf ⟨rfl, rfl, rfl, rfl, rfl⟩, h.files.same hs h.base.tf (fun e => e) (fun e => e) rfl rfl, h.pipes.same hs h.base.tp (fun e => e) (fun e => e) (fun e => e) rfl rfl,
    assigns_same h.assigns hs h.base.ta (fun e => e) rfl, h.handles.same hs h.base.th (fun e => e) (fun _ _ => ⟨fun e => e, fun e => e⟩) (fun e => e) rfl (fun j hj => upd_ne _ _ (fun e => by rw [e] at hj; exact hj hi)) (fun _ _ _ _ => rfl), h.ends⟩

theorem Rep.none_next (h : Rep g S w) : S.handles ((S.last : Int) + 1) = none := by
  cases hh : S.handles ((S.last : Int) + 1) with
  | none => rfl
  | some x =>
    have := (h.handles.hd _ x hh).2.2
    omega

/-- A handle is made, not yet in the map. -/
def OpenPost (g : Gh) (S' : SS) (i : Int) (x : Hd) (w : World) (e : Ending) (w' : World) : Prop :=
  ∃ g', e = .returned (.tuple #[hval g' i x, .int .i64 0]) ∧ Rep g' S' w' ∧ g'.ρ (g'.hb i) = (2, i) ∧ HdAt g' w' i x ∧ Step g g' w w'

theorem step_fresh {ρ' : Tags} {hb' : Int → Nat} (ht : Turn (fun _ => False) w w') (hr : ∀ k, k < w.heap.size → ρ' k = g.ρ k) : Step g { g with hb := hb', ρ := ρ' } w w' :=
  ⟨ht.mono fun _ _ e => e.elim, fun k hk => by show (ρ' k).1 = 0 ↔ _; rw [hr k hk], rfl⟩

/-- The tags behind the making of a handle: what it owns, and its own block. -/
def newTags (ρ : Tags) (m n : Nat) (t : Tag) (i : Int) : Tags := fun k => if k = n then (2, i) else retag ρ m n t k
theorem newTags_old {ρ : Tags} {m n : Nat} {t : Tag} {i : Int} {k : Nat} (h : k < m) (hmn : m ≤ n) : newTags ρ m n t i k = ρ k := by unfold newTags; rw [if_neg (by omega), retag_old ρ t h]
theorem newTags_mid {ρ : Tags} {m n : Nat} {t : Tag} {i : Int} {k : Nat} (h : m ≤ k) (h' : k < n) : newTags ρ m n t i k = t := by unfold newTags; rw [if_neg (by omega), retag_new ρ t h h']
theorem newTags_self {ρ : Tags} {m n : Nat} {t : Tag} {i : Int} : newTags ρ m n t i n = (2, i) := if_pos rfl
theorem newTags_far {ρ : Tags} {m n : Nat} {t : Tag} {i : Int} {k : Nat} (h : n + 1 ≤ k) : newTags ρ m n t i k = ρ k := by unfold newTags; rw [if_neg (by omega), retag_fresh (by omega)]

theorem open_rd_end (h : Rep g S w) {v : Value} {path b : Bytes} (T : Turn (fun _ => False) w w') (hu : SliceAt w' 5 1 v (bcells b)) (ho : ∀ k, v.ownBlock = some k → w.heap.size ≤ k) :
    OpenPost g S ((S.last : Int) + 1) (.rd path b) w (.returned (.tuple #[.iface 131 (pt w'.heap.size), .int .i64 0])) (w'.alloc (.cells #[.string (bs path), v, .int .i64 20000] 132)) := by
  have hz := T.size
  have T2 : Turn (fun _ => False) w (w'.alloc (.cells #[.string (bs path), v, .int .i64 20000] 132)) := T.alloc _
  have hr : ∀ k, k < w.heap.size → newTags g.ρ w.heap.size w'.heap.size (4, 0) ((S.last : Int) + 1) k = g.ρ k := fun k hk => newTags_old hk hz
  refine ⟨{ g with hb := upd g.hb ((S.last : Int) + 1) w'.heap.size, ρ := newTags g.ρ w.heap.size w'.heap.size (4, 0) ((S.last : Int) + 1) }, ?_, h.fresh T2 hr (fun k hk => ?_) h.none_next, ?_, ?_, step_fresh T2 hr⟩
  · simp only [hval, upd_self]
  · rw [newTags_far (by simp at hk; omega)]
    exact h.base.fresh k (by simp at hk; omega)
  · simp only [upd_self]
    exact newTags_self
  · refine ⟨v, ?_, hu.turn ((Turn.refl (fun _ => False) w').alloc _) (fun _ _ e => e), fun k hk => newTags_mid (ho k hk) (hu.lt k hk)⟩
    simp only [upd_self]
    exact heap_alloc_new w' _

theorem open_wr_end (h : Rep g S w) {v : Value} {path b : Bytes} (T : Turn (fun _ => False) w w') (hu : SliceAt w' 5 1 v (bcells b)) (ho : ∀ k, v.ownBlock = some k → w.heap.size ≤ k) :
    OpenPost g S ((S.last : Int) + 1) (.wr path b) w (.returned (.tuple #[.iface 90 (pt w'.heap.size), .int .i64 0])) (w'.alloc (.cells #[.string (bs path), v, .int .i64 20000] 95)) := by
  have hz := T.size
  have T2 : Turn (fun _ => False) w (w'.alloc (.cells #[.string (bs path), v, .int .i64 20000] 95)) := T.alloc _
  have hr : ∀ k, k < w.heap.size → newTags g.ρ w.heap.size w'.heap.size (3, (S.last : Int) + 1) ((S.last : Int) + 1) k = g.ρ k := fun k hk => newTags_old hk hz
  refine ⟨{ g with hb := upd g.hb ((S.last : Int) + 1) w'.heap.size, ρ := newTags g.ρ w.heap.size w'.heap.size (3, (S.last : Int) + 1) ((S.last : Int) + 1) }, ?_, h.fresh T2 hr (fun k hk => ?_) h.none_next, ?_, ?_, step_fresh T2 hr⟩
  · simp only [hval, upd_self]
  · rw [newTags_far (by simp at hk; omega)]
    exact h.base.fresh k (by simp at hk; omega)
  · simp only [upd_self]
    exact newTags_self
  · refine ⟨v, ?_, hu.turn ((Turn.refl (fun _ => False) w').alloc _) (fun _ _ e => e), fun k hk => newTags_mid (ho k hk) (hu.lt k hk)⟩
    simp only [upd_self]
    exact heap_alloc_new w' _

set_option maxRecDepth 10000 in
set_option maxHeartbeats 2000000 in
theorem open_read (h : Rep g S w) {sb : Nat} (hs : g.s = sb) {l path b : Bytes} (hc : cutL l = (lRam, path)) (hl : l.length ≤ 1000) (hp : path.length ≤ 1000) (hf : S.files path = some b) (hb : b.length ≤ 100000) :
    Calls Tryz.prog 35 #[pt sb, .string (bs l), .int .i64 0] w (OpenPost g S ((S.last : Int) + 1) (.rd path b) w) := by
  subst hs
  have hC := cut_calls l (by omega) h.base.env
  rw [hc] at hC
  have H := Lib.hid (And.intro h (And.intro hC (And.intro hf (And.intro hb hp))))
  clear hC hc h hf hb
  go_enter Tryz.func35, Tryz.ntmps35
  go_wp2_with fail
  refine H.out.2.1.mono ?_
  rintro e1 w1 ⟨rfl, T1⟩
  have R1 := H.out.1.new T1
  obtain ⟨c0, -, -, -, -, -⟩ := s_cells R1.base.sb
  have hlk : (Instr.lookup 75 (.map (some g.fm)) (.string (bs path)) true).run Tryz.prog w1 = .ok (.tuple #[g.fv path, .bool true]) w1 := by
    have h := R1.files.m.at.lookup_ok (P := Tryz.prog) (t := 75) (z := .slice none 0 0) Tryz.underlying9 Tryz.underlying75 (by kernel_rfl) (k := bs path) (by rw [bs_size]; unfold maxLen; omega)
    unfold kf at h
    rw [show (bs path).data.toList = path from rfl, H.out.2.2.1] at h
    exact h
  have hsl := R1.files.file path b H.out.2.2.1
  obtain ⟨va, vc, hv, -, -⟩ := bytes_form hsl.1
  have HC := Lib.hid (clone_calls hsl.1 H.out.2.2.2.1)
  have HT := Lib.hid (And.intro T1 (And.intro R1 hv))
  clear T1 R1 hsl hv
  go_wp2_with fail
  refine HC.out.mono ?_
  rintro e2 w2 ⟨u, rfl, hu, T2, ho⟩
  obtain ⟨ua, uc, rfl, -, -⟩ := bytes_form hu
  have HU := Lib.hid (And.intro hu (And.intro T2 ho))
  clear hu T2 ho
  go_wp2_with fail
  go_ret2
  have he := HU.out.1
  exact open_rd_end (path := path) H.out.1 (HT.out.1.trans HU.out.2.1) (by simpa using he) (fun k hk => by have := HU.out.2.2 k (by simpa using hk); have := HT.out.1.size; omega)

set_option maxRecDepth 10000 in
set_option maxHeartbeats 2000000 in
theorem open_write (h : Rep g S w) {sb : Nat} (hs : g.s = sb) {l path : Bytes} (hc : cutL l = (lRam, path)) (hl : l.length ≤ 1000) (hp : path.length ≤ 1000) (hno : NoWr S.handles path) :
    Calls Tryz.prog 35 #[pt sb, .string (bs l), .int .i64 1] w (OpenPost g S ((S.last : Int) + 1) (.wr path []) w) := by
  have hC := cut_calls l (by omega) h.base.env
  rw [hc] at hC
  have H := Lib.hid (And.intro h (And.intro hC (And.intro hno (And.intro hp hs))))
  subst hs
  clear hC hc h hno
  go_enter Tryz.func35, Tryz.ntmps35
  go_wp2_with fail
  refine H.out.2.1.mono ?_
  rintro e1 w1 ⟨rfl, T1⟩
  have R1 := H.out.1.new T1
  obtain ⟨c0, -, -, -, -, -⟩ := s_cells R1.base.sb
  obtain ⟨fv, ok, hlk⟩ : ∃ fv ok, (Instr.lookup 75 (.map (some g.fm)) (.string (bs path)) true).run Tryz.prog w1 = .ok (.tuple #[fv, .bool ok]) w1 :=
    ⟨_, _, R1.files.m.at.lookup_ok (P := Tryz.prog) (t := 75) (z := .slice none 0 0) Tryz.underlying9 Tryz.underlying75 (by kernel_rfl) (k := bs path) (by rw [bs_size]; unfold maxLen; omega)⟩
  have HW := Lib.hid (writing_calls R1 rfl H.out.2.2.1)
  have HT := Lib.hid (And.intro T1 R1)
  clear T1 R1
  go_wp2_with fail
  refine HW.out.mono ?_
  rintro e2 w2 ⟨rfl, T2⟩
  have HC := Lib.hid (clone_calls (w := w2) (b := []) (SliceAt.nil w2 _ _) (by simp))
  have HU := Lib.hid T2
  clear T2 c0 hlk
  go_wp2_with fail
  refine HC.out.mono ?_
  rintro e3 w3 ⟨u, rfl, hu, T3, ho⟩
  obtain ⟨ua, uc, rfl, -, -⟩ := bytes_form hu
  have HV := Lib.hid (And.intro hu (And.intro T3 ho))
  clear hu T3 ho
  go_wp2_with fail
  go_ret2
  exact open_wr_end (path := path) (b := []) H.out.1 ((HT.out.1.trans HU.out).trans HV.out.2.1) HV.out.1 (fun k hk => by have := HV.out.2.2 k hk; have := HT.out.1.size; have := HU.out.size; omega)
end
end Go.Str
