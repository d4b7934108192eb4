/-
  The plain law of Grow: what the model makes of each way.
-/
import Derived.Test.YtahfoejffibahaaQStoPure2
namespace Go.Sto

theorem fuse_used {A : St} {x : Blk} {C : St} (hx : x.used = true) (hA : Norm A) : fuse (A ++ x :: C) = A ++ x :: fuse C := by
  rw [fuse_append]
  show List.foldr add (add x (fuse C)) A = _
  rw [add_used' hx]
  rcases List.eq_nil_or_concat A with rfl | ⟨D, l, rfl⟩
  · rfl
  · rw [List.concat_eq_append] at hA ⊢
    rw [foldr_norm _ _ _ hA, add_used hx, List.append_assoc]; rfl

theorem fuse_cons {y : Blk} {D : St} (h : Norm D) : fuse (y :: D) = add y D := by
  show add y (fuse D) = _
  rw [fuse_norm h]

/-- What is behind a block that stays. -/
def Behind (x : Blk) (B : St) (m : Nat) (SB : St) : Prop :=
  (m ≤ x.size ∧ SB = rest x.size m ++ B) ∨ (x.size < m ∧ ∃ y C, B = y :: C ∧ y.used = false ∧ m ≤ x.size + y.size ∧ SB = rest (x.size + y.size) m ++ C)

theorem rest_cases (s m : Nat) (B : St) : (s = m ∧ rest s m ++ B = B) ∨ (s ≠ m ∧ rest s m ++ B = hole (s - m) :: B) := by
  unfold rest
  by_cases h : s = m
  · left; exact ⟨h, by rw [if_pos h]; rfl⟩
  · right; exact ⟨h, by rw [if_neg h]; rfl⟩

theorem behind_facts {n : Nat} {A : St} {x : Blk} {B : St} (h : Ok n (A ++ x :: B)) {m : Nat} {SB : St} (hb : Behind x B m SB) :
    (∀ y D, SB = y :: D → Norm D) ∧ (∀ b ∈ SB, b.used = false → b.ws = []) ∧ Norm A := by
  obtain ⟨n1, n2, -⟩ := norm_append.1 h.norm
  have hg := h.good
  have nB := n2.tail
  have bB : ∀ b ∈ B, b.used = false → b.ws = [] := fun b hb' => (hg b (by simp [hb'])).bare
  refine ⟨?_, ?_, n1⟩
  · intro y D e
    rcases hb with ⟨-, rfl⟩ | ⟨-, y', C, rfl, -, -, rfl⟩
    · rcases rest_cases x.size m B with ⟨-, e2⟩ | ⟨-, e2⟩
      · rw [e2] at e; rw [e] at nB; exact nB.tail
      · rw [e2] at e; cases e; exact nB
    · rcases rest_cases (x.size + y'.size) m C with ⟨-, e2⟩ | ⟨-, e2⟩
      · rw [e2] at e; have := nB.tail; rw [e] at this; exact this.tail
      · rw [e2] at e; cases e; exact nB.tail
  · intro b hb'
    rcases hb with ⟨-, rfl⟩ | ⟨-, y', C, rfl, -, -, rfl⟩
    · rcases rest_cases x.size m B with ⟨-, e2⟩ | ⟨-, e2⟩
      · rw [e2] at hb'; exact bB b hb'
      · rw [e2] at hb'
        rcases List.mem_cons.1 hb' with rfl | hb'
        · intro _; rfl
        · exact bB b hb'
    · rcases rest_cases (x.size + y'.size) m C with ⟨-, e2⟩ | ⟨-, e2⟩
      · rw [e2] at hb'; exact bB b (by simp [hb'])
      · rw [e2] at hb'
        rcases List.mem_cons.1 hb' with rfl | hb'
        · intro _; rfl
        · exact bB b (by simp [hb'])

theorem grow_bad {S : St} {a k : Int} (h : find a S = none) : grow S a k = (S, 0, 180) := by unfold grow; rw [h]
theorem grow_range {S : St} {a k : Int} {i : Nat} (h : find a S = some i) (hk : k < 0 ∨ 32000 < k) : grow S a k = (S, 0, 1) := by
  unfold grow; rw [h]; simp only; rw [if_pos hk]

theorem grow_stays {A : St} {x : Blk} {B : St} {a k : Int} (h : find a (A ++ x :: B) = some A.length) (hA : Norm A) (h0 : 0 ≤ k) (h1 : k ≤ 32000) {SB : St} (hb : Behind x B (need k) SB) :
    grow (A ++ x :: B) a k = (A ++ ⟨need k, true, resize x.ws (need k - 1)⟩ :: fuse SB, a, 0) := by
  unfold grow
  rw [h]
  simp only
  rw [if_neg (by omega), drop_left]
  simp only [take_left]
  rcases hb with ⟨h2, rfl⟩ | ⟨h2, y, C, rfl, h3, h4, rfl⟩
  · rw [if_pos h2, fuse_used rfl hA]
  · rw [if_neg (by omega)]
    simp only
    rw [if_pos ⟨h3, h4⟩, fuse_used rfl hA]

/-- Neither is there room in the block nor with the one behind it. -/
def Tight (x : Blk) (B : St) (m : Nat) : Prop := x.size < m ∧ ∀ y C, B = y :: C → ¬ (y.used = false ∧ m ≤ x.size + y.size)

theorem grow_away {A : St} {x : Blk} {B : St} {a k : Int} (h : find a (A ++ x :: B) = some A.length) (h0 : 0 ≤ k) (h1 : k ≤ 32000) (hb : Tight x B (need k)) :
    grow (A ++ x :: B) a k = match get (A ++ x :: B) k with
      | (T, to, 0) => ((put (match find to T with | some j => setWords T j (resize x.ws (need k - 1)) | none => T) a).1, to, 0)
      | (_, _, e) => (A ++ x :: B, 0, e) := by
  unfold grow
  rw [h]
  simp only
  rw [if_neg (by omega), drop_left]
  simp only
  rw [if_neg (by have := hb.1; omega)]
  cases B with
  | nil => rfl
  | cons y C => simp only; rw [if_neg (hb.2 y C rfl)]; rfl

theorem tight_or (x : Blk) (B : St) (m : Nat) : Tight x B m ∨ ∃ SB, Behind x B m SB := by
  by_cases h : m ≤ x.size
  · exact .inr ⟨_, .inl ⟨h, rfl⟩⟩
  · cases B with
    | nil => exact .inl ⟨by omega, fun y C e => by cases e⟩
    | cons y C =>
      by_cases h2 : y.used = false ∧ m ≤ x.size + y.size
      · exact .inr ⟨_, .inr ⟨by omega, y, C, rfl, h2.1, h2.2, rfl⟩⟩
      · exact .inl ⟨by omega, fun y' C' e => by cases e; exact h2⟩

theorem grow_fail {A : St} {x : Blk} {B : St} {a k : Int} (h : find a (A ++ x :: B) = some A.length) (h0 : 0 ≤ k) (h1 : k ≤ 32000) (hb : Tight x B (need k)) {T : St} {to e : Int} (hg : get (A ++ x :: B) k = (T, to, e)) (he : e ≠ 0) :
    grow (A ++ x :: B) a k = (A ++ x :: B, 0, e) := by
  rw [grow_away h h0 h1 hb, hg]
  split
  · rename_i h; cases h; exact absurd rfl he
  · rename_i h; cases h; rfl
theorem grow_moves {A : St} {x : Blk} {B : St} {a k : Int} (h : find a (A ++ x :: B) = some A.length) (h0 : 0 ≤ k) (h1 : k ≤ 32000) (hb : Tight x B (need k)) {T : St} {to : Int} (hg : get (A ++ x :: B) k = (T, to, 0)) {j : Nat} (hj : find to T = some j) :
    grow (A ++ x :: B) a k = ((put (setWords T j (resize x.ws (need k - 1))) a).1, to, 0) := by
  rw [grow_away h h0 h1 hb, hg]
  simp only [hj]
theorem good_resize {ws : List Int} {m : Nat} (h2 : 2 ≤ m) (he : m % 2 = 0) (hw : ∀ v ∈ ws, (Lit.int .i64 v).wf = true) : Good ⟨m, true, resize ws (m - 1)⟩ :=
  ⟨h2, he, fun _ => by simp [resize, zeros]; omega, (by intro h; cases h), fun v hv => by
    rcases List.mem_append.1 (List.mem_of_mem_take hv) with q | q
    · exact hw v q
    · simp [zeros] at q; rw [q.2]; rfl⟩

theorem grow_ok {n : Nat} {A : St} {x : Blk} {B : St} (h : Ok n (A ++ x :: B)) (_hu : x.used = true) {k : Int} {SB : St} (hb : Behind x B (need k) SB) : Ok n (A ++ ⟨need k, true, resize x.ws (need k - 1)⟩ :: fuse SB) := by
  obtain ⟨n1, n2, n3⟩ := norm_append.1 h.norm
  obtain ⟨g2, ge⟩ := need_good k
  have hx := h.good x (by simp)
  have hsum : need k + sz SB = x.size + sz B ∧ ∀ b ∈ SB, Good b := by
    rcases hb with ⟨h2, rfl⟩ | ⟨h2, y, C, rfl, h3, h4, rfl⟩
    · refine ⟨by rw [sz_append, rest_sum h2]; omega, fun b hb => ?_⟩
      rcases List.mem_append.1 hb with q | q
      · exact rest_good h2 hx.even ge b q
      · exact h.good b (by simp [q])
    · have hy := h.good y (by simp)
      refine ⟨by rw [sz_append, rest_sum h4]; simp only [sz]; omega, fun b hb => ?_⟩
      rcases List.mem_append.1 hb with q | q
      · exact rest_good h4 (by have := hx.even; have := hy.even; omega) ge b q
      · exact h.good b (by simp [q])
  refine ⟨h.lo, h.hi, h.even, ?_, ?_, norm_append.2 ⟨n1, norm_cons.2 ⟨fun b R e hh => (by cases hh.1), norm_fuse _⟩, fun A' a b B' e1 e2 hh => ?_⟩⟩
  · have := h.sum
    rw [sz_append] at this ⊢
    simp only [sz] at this ⊢
    rw [sz_fuse]
    omega
  · intro b hb
    rcases List.mem_append.1 hb with hb | hb
    · exact h.good b (by simp [hb])
    · rcases List.mem_cons.1 hb with rfl | hb
      · exact good_resize g2 ge hx.wf
      · exact good_fuse _ hsum.2 b hb
  · cases e2; cases hh.2
end Go.Sto
