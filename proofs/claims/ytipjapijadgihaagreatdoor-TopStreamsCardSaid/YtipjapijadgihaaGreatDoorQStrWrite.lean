/-
  Write, walked: to a file's writer, to a pipe's end.
-/
import Derived.Test.YtipjapijadgihaaGreatDoorQStrOpen
set_option linter.unusedVariables false

namespace Go.Str
open Go.Own Go.RowKit Go.Proofs

section
variable {g g' : Gh} {S : SS} {w w' : World}

/-- A handle has turned, of its own kind. -/
theorem Rep.set_handle (h : Rep g S w) {i : Int} {x x' : Hd} {ρ' : Tags} (hx : S.handles i = some x) (hv : hval g i x' = hval g i x) (hen : ∀ name r, x' = .en name r → ∃ y, S.pipes name = some y)
    (ht : Turn (fun k => k = g.hb i ∨ g.ρ k = (3, i)) w w') (hr : ∀ k, k < w.heap.size → ρ' k = g.ρ k) (hf : ∀ k, w'.heap.size ≤ k → (ρ' k).1 = 0) (hx' : HdAt { g with ρ := ρ' } w' i x') :
    Rep { g with ρ := ρ' } { S with handles := upd S.handles i (some x') } w' ∧ Step g { g with ρ := ρ' } w w' := by
  obtain ⟨t2, hat, l1, l2⟩ := h.handles.hd i x hx
  have hs : Same g { g with ρ := ρ' } w w' (fun t => t = (2, i) ∨ t = (3, i)) := ⟨fun k hk hd => ht.block k hk (fun e => hd (by rcases e with rfl | e; exact .inl t2; exact .inr e)), fun k hk _ => hr k hk⟩
  have hT : ∀ k, (k = g.hb i ∨ g.ρ k = (3, i)) → (g.ρ k).1 ≠ 0 := fun k e => by
    rcases e with rfl | e
    · rw [t2]; simp
    · rw [e]; simp
  refine ⟨⟨h.base.same hs (by simp) (fun k hk _ => hr k hk) (fun t h0 e => by rcases e with rfl | rfl <;> cases h0) hf ⟨rfl, rfl, rfl, rfl, rfl⟩, h.files.same hs h.base.tf (by simp) (by simp) rfl rfl, h.pipes.same hs h.base.tp (by simp) (by simp) (by simp) rfl rfl, assigns_same h.assigns hs h.base.ta (by simp) rfl,
    ⟨?_, fun j y hj => ?_⟩, fun j nm r hj => ?_⟩, ⟨ht.mono fun k _ e => hT k e, fun k hk => by show (ρ' k).1 = 0 ↔ _; rw [hr k hk], rfl⟩⟩
  · have : kh { g with ρ := ρ' } (upd S.handles i (some x')) = kh g S.handles := by
      funext j
      unfold kh
      by_cases e : j = i
      · subst e
        rw [upd_self, hx]
        show some (hval g j x') = some (hval g j x)
        rw [hv]
      · rw [upd_ne _ _ e]
        cases S.handles j with
        | none => rfl
        | some y => cases y <;> rfl
    rw [this]
    exact h.handles.m.keep (hs.blk _ h.handles.m.lt (by rw [h.base.th]; simp))
  · have hj' : upd S.handles i (some x') j = some y := hj
    by_cases e : j = i
    · subst e
      rw [upd_self] at hj'
      cases hj'
      exact ⟨(hr _ hat.lt).trans t2, hx', l1, l2⟩
    · rw [upd_ne _ _ e] at hj'
      obtain ⟨a1, a2, a3⟩ := h.handles.hd j y hj'
      have hne : ∀ n : Nat, ((n, j) : Tag) ≠ (2, i) ∧ ((n, j) : Tag) ≠ (3, i) := fun n => ⟨fun e2 => e (by have := congrArg Prod.snd e2; exact this), fun e2 => e (by have := congrArg Prod.snd e2; exact this)⟩
      exact ⟨(hr _ a2.lt).trans a1, a2.same hs a1 (fun e2 => by rcases e2 with e2 | e2; exact (hne 2).1 e2; exact (hne 2).2 e2) (fun e2 => by rcases e2 with e2 | e2; exact (hne 3).1 e2; exact (hne 3).2 e2) (by simp) rfl (fun _ _ _ => rfl), a3⟩
  · have hj' : upd S.handles i (some x') j = some (.en nm r) := hj
    by_cases e : j = i
    · subst e
      rw [upd_self] at hj'
      exact hen nm r (Option.some.inj hj')
    · rw [upd_ne _ _ e] at hj'
      exact h.ends j nm r hj'

theorem Rep.lookup_handle (h : Rep g S w) {i : Int} {x : Hd} (hx : S.handles i = some x) (hl : S.last ≤ 1000) : (Instr.lookup 78 (.map (some g.hm)) (.int .i64 i) true).run Tryz.prog w = .ok (.tuple #[hval g i x, .bool true]) w := by
  obtain ⟨-, -, h1, h2⟩ := h.handles.hd i x hx
  have hh := h.handles.m.at.lookup_ok (P := Tryz.prog) (t := 78) (z := .nilIface) Tryz.underlying3 Tryz.underlying78 (by kernel_rfl) (k := i) (wf_i64 (by omega) (by omega))
  unfold kh at hh
  rw [hx] at hh
  exact hh

/-- A writer's row has grown. -/
theorem Rep.put_wr (h : Rep g S w) {i : Int} {path xs zs : Bytes} {v v' : Value} {w1 : World} (hx : S.handles i = some (.wr path xs)) (hb : w.heap[g.hb i]? = some (.cells #[.string (bs path), v, .int .i64 20000] 95 (0, 0))) (hv : SliceT g.ρ (3, i) w v (bcells xs))
    (hs1 : SliceAt w1 5 1 v' (bcells (xs ++ zs))) (ht : Turn (fun k => v.ownBlock = some k) w w1) (ho : v'.ownBlock = v.ownBlock ∨ ∃ k, v'.ownBlock = some k ∧ w.heap.size ≤ k ∧ k < w1.heap.size) :
    ∃ ρ', Rep { g with ρ := ρ' } { S with handles := upd S.handles i (some (.wr path (xs ++ zs))) } (w1.setCell ⟨g.hb i, 1, none⟩ v') ∧ Step g { g with ρ := ρ' } w (w1.setCell ⟨g.hb i, 1, none⟩ v') := by
  obtain ⟨t2, -, -, -⟩ := h.handles.hd i _ hx
  have hlt := heap_lt hb
  have hne : v.ownBlock ≠ some (g.hb i) := fun e => by have := hv.2 _ e; rw [t2] at this; cases this
  have T2 : Turn (fun k => k = g.hb i ∨ g.ρ k = (3, i)) w (w1.setCell ⟨g.hb i, 1, none⟩ v') := (ht.mono fun k _ e => .inr (hv.2 k e)).setCell (fun _ => .inl rfl) _
  have hb1 : w1.heap[g.hb i]? = some (.cells #[.string (bs path), v, .int .i64 20000] 95 (0, 0)) := by rw [ht.block _ hlt hne]; exact hb
  have hr : ∀ k, k < w.heap.size → retag g.ρ w.heap.size w1.heap.size (3, i) k = g.ρ k := fun k hk => retag_old _ _ hk
  refine ⟨retag g.ρ w.heap.size w1.heap.size (3, i), h.set_handle (x' := .wr path (xs ++ zs)) hx rfl (fun _ _ e => by cases e) T2 hr (fun k hk => ?_) ⟨v', heap_setCell_self _ hb1, ?_, fun k hk => ?_⟩⟩
  · have hk' : w1.heap.size ≤ k := by simpa using hk
    rw [retag_fresh hk']
    exact h.base.fresh k (by have := ht.size; omega)
  · refine hs1.keep fun k hk => heap_setCell_ne _ fun e => ?_
    rcases ho with e2 | ⟨j, e2, e3, -⟩
    · rw [e2, e] at hk; exact hne hk
    · rw [e2] at hk; have := Option.some.inj hk; dsimp only at e; omega
  · rcases ho with e2 | ⟨j, e2, e3, e4⟩
    · rw [e2] at hk
      exact (hr k (hv.1.lt k hk)).trans (hv.2 k hk)
    · rw [e2] at hk
      have := Option.some.inj hk
      exact retag_new _ _ (by omega) (by omega)

def WritePost (g : Gh) (S' : SS) (n : Nat) (w : World) (e : Ending) (w' : World) : Prop :=
  e = .returned (.tuple #[.int .i64 n, .int .i64 0]) ∧ ∃ g', Rep g' S' w' ∧ Step g g' w w'

set_option maxRecDepth 10000 in
set_option maxHeartbeats 4000000 in
theorem write_wr (h : Rep g S w) {sb : Nat} (hs : g.s = sb) {i : Int} {path xs ys : Bytes} {u : Value} (hx : S.handles i = some (.wr path xs)) (hl : S.last ≤ 1000) (hu : SliceAt w 5 1 u (bcells ys)) (hlen : xs.length + ys.length ≤ 20000) :
    Calls Tryz.prog 10 #[pt sb, .int .i64 i, u] w (WritePost g { S with handles := upd S.handles i (some (.wr path (xs ++ ys))) } ys.length w) := by
  subst hs
  obtain ⟨-, -, -, c3, -, -⟩ := s_cells h.base.sb
  have hlk := h.lookup_handle hx hl
  obtain ⟨t2, ⟨v, hb, hv⟩, -, -⟩ := h.handles.hd i _ hx
  obtain ⟨nb, hnb⟩ : ∃ nb, g.hb i = nb := ⟨_, rfl⟩
  simp only [hval] at hlk
  rw [hnb] at hlk hb t2
  obtain ⟨va, vc, rfl, -, -⟩ := bytes_form hv.1
  obtain ⟨ua, uc, rfl, -, -⟩ := bytes_form hu
  simp only [bcells_length] at hb hv hu ⊢
  have d1 : w.cell? ⟨nb, 1, none⟩ = some (.slice va xs.length vc) := cell_at hb rfl
  have d2 : w.cell? ⟨nb, 2, none⟩ = some (.int .i64 20000) := cell_at hb rfl
  have hta := run_assert_yes (P := Tryz.prog) w (x := 86) (a := 90) (pt nb) Tryz.underlying90
  have hne : (Value.slice va xs.length vc).ownBlock ≠ some nb := fun e => by have := hv.2 nb e; rw [t2] at this; cases this
  have hfit : fits 20000 xs ys = ys.length := by unfold fits; omega
  have hP := rowput_calls (b := nb) (o := 1) (most := 20000) hv.1 hu d1 d2 (frozen_at hb) hne (by omega) (by omega) (by omega)
  have q1 : decide ((20000 : Int) - (xs.length : Int) < (ys.length : Int)) = false := decide_eq_false (by omega)
  have hw1 : IntKind.i64.wrap ((20000 : Int) - (xs.length : Int)) = (20000 : Int) - (xs.length : Int) := IntWalk.i64_in _ (by omega)
  have H := Lib.hid (And.intro h (And.intro hx (And.intro t2 (And.intro hb (And.intro hv (And.intro hP (And.intro hfit hnb)))))))
  clear h hx t2 hb hv hu hP hfit hnb hne
  go_enter Tryz.func10, Tryz.ntmps10
  go_wp2_with fail
  refine H.out.2.2.2.2.2.1.mono ?_
  rintro e1 w1 ⟨w2, v', rfl, rfl, hs2, ht2, ho2⟩
  have HP := Lib.hid (And.intro hs2 (And.intro ht2 ho2))
  clear hs2 ht2 ho2
  go_wp2_with fail
  go_ret2
  have hs2 := HP.out.1
  rw [H.out.2.2.2.2.2.2.1, List.take_length] at hs2
  have hnb := H.out.2.2.2.2.2.2.2
  subst hnb
  obtain ⟨ρ', h1, h2⟩ := H.out.1.put_wr H.out.2.1 H.out.2.2.2.1 H.out.2.2.2.2.1 hs2 HP.out.2.1 HP.out.2.2
  exact ⟨by rw [H.out.2.2.2.2.2.2.1]; rfl, _, h1, h2⟩
end
end Go.Str
