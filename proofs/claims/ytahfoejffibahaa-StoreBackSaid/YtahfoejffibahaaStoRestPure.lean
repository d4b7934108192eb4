/-
  Restore, as a plain function of the bytes: no walk.
-/
import Derived.Test.YtahfoejffibahaaStoBlk
namespace Go.Sto
open Go.RowKit

/-- The blocks out of bytes, as long as words are left. -/
def blocksIn : Nat → Option Bool → Int → List Int → Except Int (St × List Int)
  | 0, _, _, _ => .error 0
  | f + 1, pv, left, l =>
    if left ≤ 0 then .ok ([], l) else
    match parse pv left l with
    | .error e => .error e
    | .ok (size, used, ws, r) =>
      match blocksIn f (some used) (left - size) r with
      | .error e => .error e
      | .ok (S, r') => .ok (⟨size.toNat, used, ws⟩ :: S, r')

/-- Blocks ahead of what came. -/
def cont (A : St) : Except Int (St × List Int) → Except Int (St × List Int)
  | .error e => .error e
  | .ok (S, r) => .ok (A ++ S, r)
theorem cont_cont (A B : St) (x : Except Int (St × List Int)) : cont A (cont B x) = cont (A ++ B) x := by
  cases x with
  | error e => rfl
  | ok p => obtain ⟨S, r⟩ := p; simp [cont]
theorem cont_nil (x : Except Int (St × List Int)) : cont [] x = x := by
  cases x with
  | error e => rfl
  | ok p => rfl

def restore (l : List Int) : Except Int (Int × St) :=
  if l.length < 8 then .error 7 else
  if ¬ (4 ≤ dec (l.take 8) ∧ dec (l.take 8) ≤ 32000 ∧ dec (l.take 8) % 2 = 0) then .error 1 else
  match blocksIn ((dec (l.take 8)).toNat + 1) none (dec (l.take 8)) (l.drop 8) with
  | .error e => .error e
  | .ok (S, r) => if r = [] then .ok (dec (l.take 8), S) else .error 3

theorem dec_wf_aux (l : List Int) (x : Int) : -9223372036854775808 ≤ x ∧ x ≤ 9223372036854775807 → -9223372036854775808 ≤ l.foldl (fun v c => wrap64 (v * 256 + c)) x ∧ l.foldl (fun v c => wrap64 (v * 256 + c)) x ≤ 9223372036854775807 := by
  induction l generalizing x with
  | nil => exact id
  | cons c l ih =>
    intro _
    refine ih _ ?_
    show -9223372036854775808 ≤ wrap64 (x * 256 + c) ∧ wrap64 (x * 256 + c) ≤ 9223372036854775807
    unfold wrap64
    omega
theorem dec_bounds (l : List Int) : -9223372036854775808 ≤ dec l ∧ dec l ≤ 9223372036854775807 := dec_wf_aux l 0 (by omega)

theorem lit_wf {x : Int} (h : -9223372036854775808 ≤ x ∧ x ≤ 9223372036854775807) : (Lit.int .i64 x).wf = true := by
  unfold Lit.wf
  rw [Bool.and_eq_true, decide_eq_true_eq, decide_eq_true_eq]
  exact h

theorem nums_wf (c : Nat) (l : List Int) : ∀ v ∈ nums c l, (Lit.int .i64 v).wf = true := by
  intro v hv
  obtain ⟨j, -, rfl⟩ := List.mem_map.1 hv
  exact lit_wf (dec_bounds _)

theorem parse_ok {pv : Option Bool} {left : Int} {l : List Int} {size : Int} {used : Bool} {ws r : List Int} (h : parse pv left l = .ok (size, used, ws, r)) :
    2 ≤ size ∧ size % 2 = 0 ∧ size ≤ left ∧ Good ⟨size.toNat, used, ws⟩ ∧ (used = false → pv ≠ some false) ∧ r.length + 8 ≤ l.length := by
  unfold parse at h
  split at h
  · cases h
  · rename_i hl
    split at h
    · cases h
    · rename_i hs
      split at h
      · cases h
      · rename_i hl1
        split at h
        · cases h
        · rename_i hf
          have hs' : 2 ≤ dec (l.take 8) ∧ dec (l.take 8) % 2 = 0 ∧ dec (l.take 8) ≤ left := ⟨Int.not_lt.1 fun q => hs (.inl q), Decidable.not_not.1 fun q => hs (.inr (.inl q)), Int.not_lt.1 fun q => hs (.inr (.inr q))⟩
          split at h
          · split at h
            · cases h
            · simp only [Except.ok.injEq, Prod.mk.injEq] at h
              obtain ⟨rfl, rfl, rfl, rfl⟩ := h
              refine ⟨hs'.1, hs'.2.1, hs'.2.2, ⟨by show 2 ≤ Int.toNat _; omega, by show Int.toNat _ % 2 = 0; omega, fun _ => ?_, (by intro q; cases q), nums_wf _ _⟩, (by intro q; cases q), by simp only [List.length_drop]; omega⟩
              show (nums _ _).length + 1 = (dec (l.take 8)).toNat
              rw [nums_length]
              omega
          · rename_i hf1
            simp only [Except.ok.injEq, Prod.mk.injEq] at h
            obtain ⟨rfl, rfl, rfl, rfl⟩ := h
            refine ⟨hs'.1, hs'.2.1, hs'.2.2, ⟨by show 2 ≤ Int.toNat _; omega, by show Int.toNat _ % 2 = 0; omega, (by intro q; cases q), fun _ => rfl, fun v hv => by cases hv⟩, fun _ q => hf (.inr (.inr ⟨hf1, q⟩)), by simp only [List.length_drop]; omega⟩

theorem parse_err {pv : Option Bool} {left : Int} {l : List Int} (h : parse pv left l = .error 0) : False := by
  unfold parse at h
  split at h
  · cases h
  · split at h
    · cases h
    · split at h
      · cases h
      · split at h
        · cases h
        · split at h
          · split at h <;> cases h
          · cases h

theorem blocksIn_ok : ∀ {f : Nat} {pv : Option Bool} {left : Int} {l : List Int} {S : St} {r : List Int}, blocksIn f pv left l = .ok (S, r) → 0 ≤ left → (sz S : Int) = left ∧ (∀ b ∈ S, Good b) ∧ Norm S ∧ (∀ b R, S = b :: R → b.used = false → pv ≠ some false)
  | 0, _, _, _, _, _, h, _ => by cases h
  | f + 1, pv, left, l, S, r, h, h0 => by
    unfold blocksIn at h
    split at h
    · simp only [Except.ok.injEq, Prod.mk.injEq] at h
      obtain ⟨rfl, rfl⟩ := h
      exact ⟨by simp [sz]; omega, fun b hb => (by cases hb), trivial, fun b R e => by cases e⟩
    · split at h
      · cases h
      · rename_i size used ws r1 hp
        obtain ⟨p1, p2, p3, p4, p5, -⟩ := parse_ok hp
        split at h
        · cases h
        · rename_i S' r' hb
          simp only [Except.ok.injEq, Prod.mk.injEq] at h
          obtain ⟨rfl, rfl⟩ := h
          obtain ⟨i1, i2, i3, i4⟩ := blocksIn_ok hb (by omega)
          refine ⟨by simp only [sz]; omega, fun b hb => ?_, norm_cons.2 ⟨fun b R e hh => ?_, i3⟩, fun b R e hu => ?_⟩
          · rcases List.mem_cons.1 hb with rfl | hb
            · exact p4
            · exact i2 b hb
          · have := i4 b R e hh.2
            have h1 : used = false := hh.1
            rw [h1] at this
            exact this rfl
          · cases e; exact p5 hu

theorem restore_ok {l : List Int} {n : Int} {S : St} (h : restore l = .ok (n, S)) : 4 ≤ n ∧ n ≤ 32000 ∧ Ok n.toNat S := by
  unfold restore at h
  split at h
  · cases h
  · split at h
    · cases h
    · rename_i hv
      have hv' := Decidable.not_not.1 hv
      split at h
      · cases h
      · rename_i S' r hb
        split at h
        · simp only [Except.ok.injEq, Prod.mk.injEq] at h
          obtain ⟨rfl, rfl⟩ := h
          obtain ⟨i1, i2, i3, -⟩ := blocksIn_ok hb (by omega)
          exact ⟨hv'.1, hv'.2.1, by omega, by omega, by omega, by omega, i2, i3⟩
        · cases h
end Go.Sto
