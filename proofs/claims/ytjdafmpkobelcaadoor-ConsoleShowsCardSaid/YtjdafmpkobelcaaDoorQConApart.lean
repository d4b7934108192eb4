/-
  ConsoleApart, for every input.
-/
import Derived.Deep.LoopGhost
import Derived.Deep.CutRange
import Derived.Deep.CutBlock
import Derived.Test.YtjdafmpkobelcaaDoorQConDoes
set_option linter.unusedVariables false

namespace Go.Con
open Go.Own Go.RowKit Go.Proofs

/-- Two consoles in which the same is being typed. -/
structure CS.Tq (S D : CS) : Prop where
  typed : S.typed = D.typed
  chosen : S.chosen = D.chosen
  typing : S.typing = D.typing
  digits : S.digits = D.digits
  number : S.number = D.number

theorem CS.Tq.refl (S : CS) : S.Tq S := ⟨rfl, rfl, rfl, rfl, rfl⟩
theorem CS.hand_tq {S D : CS} (h : S.Tq D) (e : Bytes) : (S.hand e).1.Tq (D.hand e).1 ∧ (S.hand e).2 = (D.hand e).2 := by
  obtain ⟨h1, h2, h3, h4, h5⟩ := h
  cases S; cases D
  simp only at h1 h2 h3 h4 h5
  subst h1; subst h2; subst h3; subst h4; subst h5
  unfold CS.hand
  dsimp only
  split <;> exact ⟨⟨rfl, rfl, rfl, rfl, rfl⟩, rfl⟩
theorem CS.act_tq {S D : CS} (h : S.Tq D) (b : UInt8) : (S.act b).1.Tq (D.act b).1 ∧ (S.act b).2 = (D.act b).2 := by
  have hh := CS.hand_tq h []
  have hh2 := CS.hand_tq (S := S.echo [10]) (D := D.echo [10]) ⟨h.typed, h.chosen, h.typing, h.digits, h.number⟩ [10]
  obtain ⟨h1, h2, h3, h4, h5⟩ := h
  cases S; cases D
  simp only at h1 h2 h3 h4 h5
  subst h1; subst h2; subst h3; subst h4; subst h5
  unfold CS.act
  dsimp only
  repeat' split
  all_goals first
    | exact hh
    | exact hh2
    | exact ⟨⟨rfl, rfl, rfl, rfl, rfl⟩, rfl⟩
theorem CS.key_tq {S D : CS} (h : S.Tq D) (b : UInt8) : (S.key b).1.Tq (D.key b).1 ∧ (S.key b).2 = (D.key b).2 := by
  have hh := CS.act_tq h b
  have hh2 := CS.act_tq (S := { S with typing := false }) (D := { D with typing := false }) ⟨h.typed, h.chosen, rfl, h.digits, h.number⟩ b
  obtain ⟨h1, h2, h3, h4, h5⟩ := h
  cases S; cases D
  simp only at h1 h2 h3 h4 h5
  subst h1; subst h2; subst h3; subst h4; subst h5
  unfold CS.key
  dsimp only
  repeat' split
  all_goals first
    | exact hh
    | exact hh2
    | exact ⟨⟨rfl, rfl, rfl, rfl, rfl⟩, rfl⟩
theorem CS.type_tq (l : Bytes) : ∀ {S D : CS}, S.Tq D → (S.type l).1.Tq (D.type l).1 ∧ (S.type l).2 = (D.type l).2 := by
  induction l with
  | nil => intro S D h; exact ⟨h, rfl⟩
  | cons x r ih =>
    intro S D h
    have h1 := CS.key_tq h x
    have h2 := ih h1.1
    exact ⟨h2.1, by show (S.key x).2 ++ _ = (D.key x).2 ++ _; rw [h1.2, h2.2]⟩
theorem CS.put_tq {S D : CS} (h : S.Tq D) (k : Nat) (x : UInt8) : (S.put k x).Tq D := by
  unfold CS.put
  split
  · exact ⟨h.typed, h.chosen, h.typing, h.digits, h.number⟩
  · have hr : (S.room k).Tq D := by
      unfold CS.room
      split
      · exact ⟨h.typed, h.chosen, h.typing, h.digits, h.number⟩
      · exact h
    exact ⟨hr.typed, hr.chosen, hr.typing, hr.digits, hr.number⟩
theorem CS.write_tq {D : CS} (k : Nat) (l : Bytes) : ∀ {S : CS}, S.Tq D → (S.write k l).Tq D := by
  unfold CS.write
  induction l with
  | nil => intro S h; exact h
  | cons x r ih => intro S h; exact ih (CS.put_tq h k x)
theorem CS.flush_tq {S D : CS} (h : S.Tq D) (k : Nat) : (S.flush k).Tq D := by
  unfold CS.flush
  split
  · exact h
  · exact ⟨h.typed, h.chosen, h.typing, h.digits, h.number⟩

section
variable {g g1 d d1 : Ghost} {S D T : CS} {w w' w1 : World}

theorem St2d.left {d : Ghost} (h : Step g g1 w w1) : Turn (fun k => (g.ρ k).1 ≠ 0 ∨ (d.ρ k).1 ≠ 0) w w1 := h.turn.mono fun _ _ q => .inl q

/-- The state of ConsoleApart's loop. -/
def ApI (w0 : World) (C X N : Nat) (wr : World) : Prop :=
  ∃ g d S D, Rep g S wr ∧ Rep d D wr ∧ Apart g d ∧ g.c = C ∧ d.c = X ∧ Old w0 wr ∧ (∀ k, k < w0.heap.size → (g.ρ k).1 = 0 ∧ (d.ρ k).1 = 0) ∧ S.Tq D ∧ S.Ok ∧ D.Ok ∧ S.Small N ∧ D.Small N

theorem old_step {w0 w w' : World} {g g' : Ghost} (o : Old w0 w) (h : ∀ k, k < w0.heap.size → (g.ρ k).1 = 0) (s : Step g g' w w') : Old w0 w' ∧ ∀ k, k < w0.heap.size → (g'.ρ k).1 = 0 := by
  have hs := o.size
  refine ⟨o.trans ⟨s.turn.os, s.turn.tape, s.turn.output, s.turn.size, fun k hk hn => s.turn.block k hk fun q => ?_⟩, fun k hk => ?_⟩
  · exact q (h k (Nat.lt_of_not_le hn))
  · rw [s.tags k (by omega)]; exact h k hk

theorem ApI.left {w0 : World} {C X N M : Nat} (hC : g.c = C) (hX : d.c = X) (rg : Rep g S w) (rd : Rep d D w) (ap : Apart g d) (o : Old w0 w) (ht : ∀ k, k < w0.heap.size → (g.ρ k).1 = 0 ∧ (d.ρ k).1 = 0)
    (r1 : Rep g1 T w1) (s : Step g g1 w w1) (tq : T.Tq D) (ok : T.Ok) (okD : D.Ok) (sm : T.Small M) (smD : D.Small N) (hNM : N ≤ M) : ApI w0 C X M w1 := by
  have st := rd.beside rg ap.symm s r1
  have ho := old_step o (fun k hk => (ht k hk).1) s
  exact ⟨g1, d, T, D, r1, st.1, st.2.symm, s.c.trans hC, hX, ho.1, fun k hk => ⟨ho.2 k hk, (ht k hk).2⟩, tq, ok, okD, sm, smD.mono hNM⟩
end
end Go.Con
