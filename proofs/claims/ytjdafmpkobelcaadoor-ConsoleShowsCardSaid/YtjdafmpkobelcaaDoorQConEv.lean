/-
  What an event makes of a console: the plain part.
-/
import Derived.Test.YtjdafmpkobelcaaDoorQConLaw
import Derived.Test.YtjdafmpkobelcaaDoorQConWrite2
import Derived.Test.YtjdafmpkobelcaaDoorQRefRead
import Derived.Test.YtjdafmpkobelcaaDoorQRefWrite
set_option linter.unusedVariables false

namespace Go.Con
open Go.Own

def inR (t : Int) : Prop := 1 ≤ t ∧ t ≤ 99
instance (t : Int) : Decidable (inR t) := by unfold inR; infer_instance

/-- What an event makes of a console. -/
def CS.ev (S : CS) (p : Ev) : CS :=
  if p.d = 0 then (S.type p.b).1
  else if p.d = 1 then (if inR p.t then S.write p.t.toNat p.b else S)
  else if p.d = 2 then (if inR p.t then S.flush p.t.toNat else S)
  else if p.d = 3 then (S.read p.t).1
  else S.asked p.t

/-- No flags but of the tasks 1 to 99. -/
def CS.Nf (S : CS) : Prop := ∀ k, ¬ inR k → S.flags k = 0

theorem CS.new_nf : CS.new.Nf := fun _ _ => rfl
theorem CS.act_nf {S : CS} (h : S.Nf) (ok : S.Ok) (b : UInt8) : (S.act b).1.Nf := by
  have hh : ∀ (T : CS) (e : Bytes), T.Nf → (T.hand e).1.Nf := fun T e ht => by unfold CS.hand; split <;> exact ht
  unfold CS.act
  split
  · split <;> exact h
  · split
    · exact hh _ _ h
    · split
      · exact h
      · split
        · exact h
        · split
          · exact h
          · split
            · exact hh _ _ h
            · split
              · rename_i hc
                intro k hk
                show upd S.flags S.chosen _ k = 0
                rw [upd_ne _ _ (fun e => hk (by rw [e]; exact ⟨by omega, ok.chosen⟩))]
                exact h k hk
              · split <;> exact h
theorem CS.key_nf {S : CS} (h : S.Nf) (ok : S.Ok) (b : UInt8) : (S.key b).1.Nf := by
  unfold CS.key
  split
  · split
    · exact h
    · exact CS.act_nf (S := { S with typing := false }) h ⟨ok.typed, ok.chosen0, ok.chosen, ok.digits0, ok.digits, ok.number0, ok.number, (fun e => by cases e), ok.one, ok.flags0, ok.flags, ok.out, ok.last0, ok.last⟩ b
  · exact CS.act_nf h ok b
theorem CS.type_nf {S : CS} (h : S.Nf) (ok : S.Ok) (l : Bytes) : (S.type l).1.Nf := by
  induction l generalizing S with
  | nil => exact h
  | cons x r ih => exact ih (CS.key_nf h ok x) (CS.key_ok ok x)
theorem CS.goes_nf {S : CS} (h : S.Nf) (k : Nat) : (S.goes k).Nf := h
theorem CS.put_nf {S : CS} (h : S.Nf) (k : Nat) (x : UInt8) : (S.put k x).Nf := by
  unfold CS.put
  split
  · exact h
  · show (S.room k).Nf
    unfold CS.room
    split <;> exact h
theorem CS.write_nf {S : CS} (h : S.Nf) (k : Nat) (l : Bytes) : (S.write k l).Nf := by
  unfold CS.write
  induction l generalizing S with
  | nil => exact h
  | cons x r ih => exact ih (CS.put_nf h k x)
theorem CS.read_keeps (S : CS) (k : Int) : (S.read k).1.typed = S.typed ∧ (S.read k).1.screen = S.screen ∧ (S.read k).1.flags = S.flags ∧ (S.read k).1.chosen = S.chosen := by
  unfold CS.read
  split <;> exact ⟨rfl, rfl, rfl, rfl⟩
theorem CS.read_ok {S : CS} (h : S.Ok) (k : Int) : (S.read k).1.Ok := by
  unfold CS.read
  split
  · exact h
  · exact ⟨h.typed, h.chosen0, h.chosen, h.digits0, h.digits, h.number0, h.number, h.typing, h.one, h.flags0, h.flags, h.out, h.last0, h.last⟩
theorem CS.read_small {S : CS} {n : Nat} (h : S.Small n) (k : Int) : (S.read k).1.Small n := by
  unfold CS.read
  split
  · exact h
  · rename_i s rest hs
    refine ⟨h.screen, fun j => ?_, fun j l hl => ?_⟩
    · show (upd S.lines k rest j).length ≤ n
      unfold upd
      split
      · have := h.lines k; rw [hs] at this; simp at this; omega
      · exact h.lines j
    · have hl' : l ∈ upd S.lines k rest j := hl
      unfold upd at hl'
      split at hl'
      · exact h.line k l (by rw [hs]; exact List.mem_cons_of_mem _ hl')
      · exact h.line j l hl'

theorem CS.asked_nf {S : CS} (h : S.Nf) (k : Int) : (S.asked k).Nf := fun j hj => by
  show upd S.flags k 0 j = 0
  unfold upd
  split
  · rfl
  · exact h j hj
theorem CS.asked_off {S : CS} (h : S.Nf) {k : Int} (hk : ¬ inR k) : S.asked k = S := by
  have e : upd S.flags k 0 = S.flags := funext fun j => by
    unfold upd
    split
    · rename_i hj; rw [hj, h k hk]
    · rfl
  unfold CS.asked
  rw [e]

theorem CS.ev_ok {S : CS} (h : S.Ok) (p : Ev) : (S.ev p).Ok := by
  unfold CS.ev
  split
  · exact CS.type_ok h _
  · split
    · split
      · rename_i hr; exact CS.write_ok h _ (by have := hr.1; omega) (by have := hr.2; omega) _
      · exact h
    · split
      · split
        · rename_i hr; exact CS.flush_ok h _ (by have := hr.1; omega) (by have := hr.2; omega)
        · exact h
      · split
        · exact CS.read_ok h _
        · exact CS.asked_ok h _
theorem CS.ev_small {S : CS} {n : Nat} (h : S.Small n) (hk : S.Ok) (p : Ev) {m : Nat} (hm : n + 250 * (1 + p.b.length) ≤ m) : (S.ev p).Small m := by
  unfold CS.ev
  split
  · exact CS.type_small h hk _ (by omega)
  · split
    · split
      · rename_i hr; exact CS.write_small h hk _ (by have := hr.1; omega) (by have := hr.2; omega) _ (by omega)
      · exact h.mono (by omega)
    · split
      · split
        · exact CS.flush_small h hk _ (by omega)
        · exact h.mono (by omega)
      · split
        · exact (CS.read_small h _).mono (by omega)
        · exact ⟨Nat.le_trans h.screen (by omega), fun k => Nat.le_trans (h.lines k) (by omega), h.line⟩
theorem CS.ev_nf {S : CS} (h : S.Nf) (ok : S.Ok) (p : Ev) : (S.ev p).Nf := by
  unfold CS.ev
  split
  · exact CS.type_nf h ok _
  · split
    · split
      · exact CS.write_nf h _ _
      · exact h
    · split
      · split
        · unfold CS.flush; split; exact h; exact CS.goes_nf h _
        · exact h
      · split
        · intro k hk; rw [(CS.read_keeps S p.t).2.2.1]; exact h k hk
        · exact CS.asked_nf h _

def CS.run (S : CS) (l : List Ev) : CS := l.foldl CS.ev S
theorem CS.run_succ (S : CS) {l : List Ev} {i : Nat} {p : Ev} (h : l[i]? = some p) : S.run (l.take (i + 1)) = (S.run (l.take i)).ev p := by
  unfold CS.run
  rw [List.take_add_one, h, List.foldl_append]; rfl
theorem CS.run_good {S : CS} (l : List Ev) : ∀ {n : Nat}, S.Ok → S.Nf → S.Small n → (S.run l).Ok ∧ (S.run l).Nf ∧ (S.run l).Small (n + 250 * evW l) := by
  induction l generalizing S with
  | nil => intro n a b c; exact ⟨a, b, c.mono (by omega)⟩
  | cons p r ih =>
    intro n a b c
    have h := ih (S := S.ev p) (CS.ev_ok a p) (CS.ev_nf b a p) (CS.ev_small c a p (Nat.le_refl _))
    refine ⟨h.1, h.2.1, h.2.2.mono ?_⟩
    rw [evW_cons]; omega
end Go.Con
