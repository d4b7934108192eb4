/-
  The plain law of the store's list: the blocks in use, by their addresses.
-/
import Derived.Test.YtahfoejffibahaaQStoPure1
set_option linter.unusedVariables false

namespace Go.Sto

/-- The blocks in use: addresses and words. -/
def U : Nat → St → List (Int × List Int)
  | _, [] => []
  | at_, b :: r => if b.used then ((at_ : Int) + 1, b.ws) :: U (at_ + b.size) r else U (at_ + b.size) r

theorem U_append : ∀ (A B : St) (a : Nat), U a (A ++ B) = U a A ++ U (a + sz A) B
  | [], B, a => by simp [U, sz]
  | b :: A, B, a => by
    simp only [List.cons_append, U, sz]
    rw [U_append A B, Nat.add_assoc]
    split <;> simp

theorem U_hole (m a : Nat) (R : St) : U a (hole m :: R) = U (a + m) R := by simp [U, hole]

theorem U_add (b : Blk) (R : St) (a : Nat) : U a (add b R) = U a (b :: R) := by
  cases R with
  | nil => rfl
  | cons c R =>
    unfold add
    simp only []
    split
    · rename_i h
      rw [U_hole]
      simp [U, h.1, h.2, Nat.add_assoc]
    · rfl

theorem U_fuse : ∀ (S : St) (a : Nat), U a (fuse S) = U a S
  | [], _ => rfl
  | b :: S, a => by
    show U a (add b (fuse S)) = _
    rw [U_add]
    simp only [U]
    rw [U_fuse S]

theorem U_rest (n m a : Nat) (R : St) (_h : m ≤ n) : U a (rest n m ++ R) = U (a + (n - m)) R := by
  unfold rest
  split
  · rename_i h; simp [h]
  · rw [List.cons_append, U_hole]; rfl

theorem U_ge : ∀ {S : St} {a : Nat} {x : Int × List Int}, x ∈ U a S → (a : Int) < x.1
  | [], _, _, h => by cases h
  | b :: S, a, x, h => by
    unfold U at h
    split at h
    · rcases List.mem_cons.1 h with rfl | h
      · simp; omega
      · have := U_ge h; omega
    · have := U_ge h; omega

theorem U_lt : ∀ {S : St} {a : Nat} {x : Int × List Int}, (∀ b ∈ S, 2 ≤ b.size) → x ∈ U a S → x.1 < (a + sz S : Nat)
  | [], _, _, _, h => by cases h
  | b :: S, a, x, hg, h => by
    have hb := hg b (by simp)
    unfold U at h
    split at h
    · rcases List.mem_cons.1 h with rfl | h
      · simp [sz]; omega
      · have := U_lt (fun c hc => hg c (by simp [hc])) h; simp [sz]; omega
    · have := U_lt (fun c hc => hg c (by simp [hc])) h; simp [sz]; omega

/-- A block in use by its address. -/
theorem U_mem : ∀ {S : St} {a : Nat} {x : Int × List Int}, x ∈ U a S → ∃ A b B, S = A ++ b :: B ∧ b.used = true ∧ x = (((a + sz A : Nat) : Int) + 1, b.ws)
  | [], _, _, h => by cases h
  | c :: S, a, x, h => by
    unfold U at h
    split at h
    · rename_i hc
      rcases List.mem_cons.1 h with rfl | h
      · exact ⟨[], c, S, rfl, hc, by simp [sz]⟩
      · obtain ⟨A, b, B, rfl, hb, rfl⟩ := U_mem h
        exact ⟨c :: A, b, B, rfl, hb, by simp [sz, Nat.add_assoc]⟩
    · obtain ⟨A, b, B, rfl, hb, rfl⟩ := U_mem h
      exact ⟨c :: A, b, B, rfl, hb, by simp [sz, Nat.add_assoc]⟩

theorem find_at {A : St} {b : Blk} {B : St} (hg : ∀ b ∈ A, 2 ≤ b.size) (hb : b.used = true) : find ((sz A : Int) + 1) (A ++ b :: B) = some A.length := by
  refine hit_at (by simp [isAt, hb]) fun A' y B' e => ?_
  have : sz A' < sz A := by
    rw [e, sz_append]
    have := hg y (by rw [e]; simp)
    simp [sz]; omega
  simp only [isAt, Nat.zero_add, Bool.and_eq_false_iff, decide_eq_false_iff_not]
  right; omega

section
variable {n : Nat} {S : St}

theorem Ok.two (h : Ok n S) : ∀ b ∈ S, 2 ≤ b.size := fun b hb => (h.good b hb).two

/-- What stands at an address in use. -/
theorem Ok.split (h : Ok n S) {x : Int × List Int} (hx : x ∈ U 0 S) : ∃ A b B, S = A ++ b :: B ∧ b.used = true ∧ x.1 = (sz A : Int) + 1 ∧ x.2 = b.ws ∧ find x.1 S = some A.length ∧ U 0 S = U 0 A ++ x :: U (sz A + b.size) B := by
  obtain ⟨A, b, B, rfl, hb, rfl⟩ := U_mem hx
  refine ⟨A, b, B, rfl, hb, by simp, rfl, ?_, ?_⟩
  · simp only [Nat.zero_add]
    exact find_at (fun c hc => h.two c (by simp [hc])) hb
  · rw [U_append]; simp [U, hb]

theorem Ok.nodup (h : Ok n S) : ((U 0 S).map Prod.fst).Nodup := by
  have : ∀ (S : St) (a : Nat), (∀ b ∈ S, 2 ≤ b.size) → ((U a S).map Prod.fst).Nodup := by
    intro S
    induction S with
    | nil => intro a _; simp [U]
    | cons b S ih =>
      intro a hg
      have h1 := ih (a + b.size) fun c hc => hg c (by simp [hc])
      unfold U
      split
      · rw [List.map_cons, List.nodup_cons]
        refine ⟨fun hm => ?_, h1⟩
        obtain ⟨x, hx, e⟩ := List.mem_map.1 hm
        have := U_ge hx
        have := hg b (by simp)
        simp at e
        omega
      · exact h1
  exact this S 0 h.two

theorem Ok.pos (h : Ok n S) {x : Int × List Int} (hx : x ∈ U 0 S) : 0 < x.1 ∧ x.1 < 32000 ∧ 1 ≤ x.2.length := by
  obtain ⟨A, b, B, e, hu, e1, e2, -, -⟩ := h.split hx
  have h1 := U_ge hx
  have h2 := U_lt h.two hx
  have h3 := h.sum
  have h4 := h.hi
  have hg := h.good b (by rw [e]; simp)
  have := hg.full hu
  have := hg.two
  rw [h3] at h2
  refine ⟨by omega, by omega, by rw [e2]; omega⟩

/-! ### What the calls do to them -/

theorem pair_split {X X' Y Y' : List (Int × List Int)} {x : Int × List Int} (hn : ((X ++ x :: Y).map Prod.fst).Nodup) (e : X ++ x :: Y = X' ++ x :: Y') : X = X' ∧ Y = Y' := by
  have key : ∀ {A B : List (Int × List Int)}, ((A ++ x :: B).map Prod.fst).Nodup → ((A ++ x :: B).map Prod.fst).idxOf x.1 = A.length := by
    intro A B h
    rw [List.map_append, List.map_cons] at h ⊢
    have hm : x.1 ∉ A.map Prod.fst := fun hm => (List.nodup_append.1 h).2.2 _ hm x.1 (by simp) rfl
    rw [List.idxOf_append, if_neg hm]
    simp
  have h1 := key hn
  have hn2 := hn
  rw [e] at hn2
  have h2 := key hn2
  rw [e] at h1
  have := List.append_inj e (by rw [← h1, ← h2])
  exact ⟨this.1, by have := this.2; simpa using this⟩

theorem put_U (h : Ok n S) {X Y : List (Int × List Int)} {x : Int × List Int} (hx : U 0 S = X ++ x :: Y) : ∃ S', put S x.1 = (S', 0) ∧ U 0 S' = X ++ Y ∧ Ok n S' := by
  have hm : x ∈ U 0 S := by rw [hx]; simp
  obtain ⟨A, b, B, e, hu, e1, e2, hf, hU⟩ := h.split hm
  refine ⟨fuse (A ++ hole b.size :: B), ?_, ?_, ?_⟩
  · unfold put
    rw [hf]
    simp only [freeAt]
    rw [e, take_left, drop_left]
  · rw [U_fuse, U_append, U_hole]
    have hn := h.nodup
    rw [hU] at hx hn
    have := pair_split hn hx
    rw [Nat.zero_add, this.1, this.2]
  · rw [e] at h; exact put_ok h

theorem read_U (h : Ok n S) {x : Int × List Int} (hx : x ∈ U 0 S) {i : Int} (h0 : 0 ≤ i) (h1 : i < x.2.length) : read S x.1 i = (x.2.getD i.toNat 0, 0) := by
  obtain ⟨A, b, B, e, hu, e1, e2, hf, hU⟩ := h.split hx
  unfold read
  rw [hf]
  simp only []
  have : wordsAt S A.length = x.2 := by rw [e, e2]; unfold wordsAt; rw [drop_left]
  rw [this, if_neg (by omega)]

theorem size_U (h : Ok n S) {x : Int × List Int} (hx : x ∈ U 0 S) : size S x.1 = ((x.2.length : Int), 0) := by
  obtain ⟨A, b, B, e, hu, e1, e2, hf, hU⟩ := h.split hx
  unfold size
  rw [hf]
  simp only []
  have : wordsAt S A.length = x.2 := by rw [e, e2]; unfold wordsAt; rw [drop_left]
  rw [this]

theorem write_U (h : Ok n S) {x : Int × List Int} (hx : x ∈ U 0 S) {i v : Int} (hv : (Lit.int .i64 v).wf = true) (h0 : 0 ≤ i) (h1 : i < x.2.length) :
    ∃ S' X Y, write S x.1 i v = (S', 0) ∧ U 0 S = X ++ x :: Y ∧ U 0 S' = X ++ (x.1, x.2.set i.toNat v) :: Y ∧ Ok n S' := by
  obtain ⟨A, b, B, e, hu, e1, e2, hf, hU⟩ := h.split hx
  refine ⟨A ++ ⟨b.size, b.used, b.ws.set i.toNat v⟩ :: B, U 0 A, U (sz A + b.size) B, ?_, hU, ?_, ?_⟩
  · unfold write
    rw [hf]
    simp only []
    have : wordsAt S A.length = x.2 := by rw [e, e2]; unfold wordsAt; rw [drop_left]
    rw [this, if_neg (by omega)]
    unfold setWords
    rw [e, take_left, drop_left, e2]
  · rw [U_append]
    simp only [U, hu, if_true, Nat.zero_add, e1, e2]
  · rw [e] at h
    have hx' := h.good b (by simp)
    refine ⟨h.lo, h.hi, h.even, by rw [← h.sum, sz_append, sz_append]; rfl, fun c hc => ?_, ?_⟩
    · rcases List.mem_append.1 hc with hc | hc
      · exact h.good c (by simp [hc])
      · rcases List.mem_cons.1 hc with rfl | hc
        · refine ⟨hx'.two, hx'.even, fun hu => by simp; exact hx'.full hu, fun h' => (by rw [hu] at h'; cases h'), fun u hu' => ?_⟩
          rcases List.mem_or_eq_of_mem_set hu' with hu' | rfl
          · exact hx'.wf u hu'
          · exact hv
        · exact h.good c (by simp [hc])
    · obtain ⟨n1, n2, n3⟩ := norm_append.1 h.norm
      obtain ⟨m1, m2⟩ := norm_cons.1 n2
      exact norm_append.2 ⟨n1, norm_cons.2 ⟨m1, m2⟩, fun A' a b' B' q1 q2 => by cases q2; exact n3 A' a b B q1 rfl⟩

/-- Get: nothing, or a new block in use. -/
theorem get_U (h : Ok n S) (k : Int) : (∃ e, get S k = (S, 0, e) ∧ e ≠ 0) ∨
    ∃ S' a X Y, get S k = (S', a, 0) ∧ U 0 S = X ++ Y ∧ U 0 S' = X ++ (a, zeros (need k - 1)) :: Y ∧ Ok n S' ∧ 0 < a ∧ 0 ≤ k ∧ k ≤ 32000 := by
  unfold get
  by_cases hk : k < 0 ∨ 32000 < k
  · rw [if_pos hk]; exact .inl ⟨1, rfl, by decide⟩
  · rw [if_neg hk]
    cases hf : hit (fits (need k)) 0 S with
    | none => exact .inl ⟨2, rfl, by decide⟩
    | some i =>
      obtain ⟨A, b, B, e, hl, hb, -⟩ := hit_some hf
      simp only [fits, Bool.and_eq_true, Bool.not_eq_true', decide_eq_true_eq] at hb
      refine .inr ⟨A ++ ⟨need k, true, zeros (need k - 1)⟩ :: (rest b.size (need k) ++ B), (sz A : Int) + 1, U 0 A, U (sz A + b.size) B, ?_, ?_, ?_, ?_, by omega, by omega, by omega⟩
      · subst hl
        simp only [cutAt]
        rw [e, take_left, drop_left]
      · rw [e, U_append]; simp [U, hb.1]
      · rw [U_append]
        simp only [U, if_true, Nat.zero_add]
        rw [U_rest _ _ _ _ hb.2]
        congr 3
        have := hb.2
        omega
      · have hok : Ok n (A ++ b :: B) := e ▸ h
        exact take_ok hok hb.1 hb.2 (need_good k).1 (need_good k).2 _ (good_zeros (need_good k).1 (need_good k).2)

/-- Where nothing is in use memory is one block. -/
theorem one_block (h : Ok n S) (hU : U 0 S = []) : S = [hole n] := by
  have hfree : ∀ b ∈ S, b.used = false := by
    intro b hb
    obtain ⟨A, B, rfl⟩ := List.append_of_mem hb
    rw [U_append] at hU
    cases hu : b.used with
    | false => rfl
    | true => simp [U, hu] at hU
  match S, h with
  | [], h => have := h.sum; have := h.lo; simp [sz] at *; omega
  | [b], h =>
    have h1 := h.sum
    simp [sz] at h1
    have h2 := hfree b (by simp)
    have h3 := (h.good b (by simp)).bare h2
    cases b
    simp at h1 h2 h3
    subst h1; subst h2; subst h3; rfl
  | a :: b :: S, h => exact absurd ⟨hfree a (by simp), hfree b (by simp)⟩ h.norm.1
end
end Go.Sto

/-
  The plain law of Grow: what the model makes of each way.
-/
namespace Go.Sto

theorem fuse_used {A : St} {x : Blk} {C : St} (hx : x.used = true) (hA : Norm A) : fuse (A ++ x :: C) = A ++ x :: fuse C := by
  rw [fuse_append]
  show List.foldr add (add x (fuse C)) A = _
  rw [add_used' hx]
  rcases List.eq_nil_or_concat A with rfl | ⟨D, l, rfl⟩
  · rfl
  · rw [List.concat_eq_append] at hA ⊢
    rw [foldr_norm _ _ _ hA, add_used hx, List.append_assoc]; rfl

theorem fuse_cons {y : Blk} {D : St} (h : Norm D) : fuse (y :: D) = add y D := by
  show add y (fuse D) = _
  rw [fuse_norm h]

/-- What is behind a block that stays. -/
def Behind (x : Blk) (B : St) (m : Nat) (SB : St) : Prop :=
  (m ≤ x.size ∧ SB = rest x.size m ++ B) ∨ (x.size < m ∧ ∃ y C, B = y :: C ∧ y.used = false ∧ m ≤ x.size + y.size ∧ SB = rest (x.size + y.size) m ++ C)

theorem rest_cases (s m : Nat) (B : St) : (s = m ∧ rest s m ++ B = B) ∨ (s ≠ m ∧ rest s m ++ B = hole (s - m) :: B) := by
  unfold rest
  by_cases h : s = m
  · left; exact ⟨h, by rw [if_pos h]; rfl⟩
  · right; exact ⟨h, by rw [if_neg h]; rfl⟩

theorem behind_facts {n : Nat} {A : St} {x : Blk} {B : St} (h : Ok n (A ++ x :: B)) {m : Nat} {SB : St} (hb : Behind x B m SB) :
    (∀ y D, SB = y :: D → Norm D) ∧ (∀ b ∈ SB, b.used = false → b.ws = []) ∧ Norm A := by
  obtain ⟨n1, n2, -⟩ := norm_append.1 h.norm
  have hg := h.good
  have nB := n2.tail
  have bB : ∀ b ∈ B, b.used = false → b.ws = [] := fun b hb' => (hg b (by simp [hb'])).bare
  refine ⟨?_, ?_, n1⟩
  · intro y D e
    rcases hb with ⟨-, rfl⟩ | ⟨-, y', C, rfl, -, -, rfl⟩
    · rcases rest_cases x.size m B with ⟨-, e2⟩ | ⟨-, e2⟩
      · rw [e2] at e; rw [e] at nB; exact nB.tail
      · rw [e2] at e; cases e; exact nB
    · rcases rest_cases (x.size + y'.size) m C with ⟨-, e2⟩ | ⟨-, e2⟩
      · rw [e2] at e; have := nB.tail; rw [e] at this; exact this.tail
      · rw [e2] at e; cases e; exact nB.tail
  · intro b hb'
    rcases hb with ⟨-, rfl⟩ | ⟨-, y', C, rfl, -, -, rfl⟩
    · rcases rest_cases x.size m B with ⟨-, e2⟩ | ⟨-, e2⟩
      · rw [e2] at hb'; exact bB b hb'
      · rw [e2] at hb'
        rcases List.mem_cons.1 hb' with rfl | hb'
        · intro _; rfl
        · exact bB b hb'
    · rcases rest_cases (x.size + y'.size) m C with ⟨-, e2⟩ | ⟨-, e2⟩
      · rw [e2] at hb'; exact bB b (by simp [hb'])
      · rw [e2] at hb'
        rcases List.mem_cons.1 hb' with rfl | hb'
        · intro _; rfl
        · exact bB b (by simp [hb'])

theorem grow_bad {S : St} {a k : Int} (h : find a S = none) : grow S a k = (S, 0, 180) := by unfold grow; rw [h]
theorem grow_range {S : St} {a k : Int} {i : Nat} (h : find a S = some i) (hk : k < 0 ∨ 32000 < k) : grow S a k = (S, 0, 1) := by
  unfold grow; rw [h]; simp only; rw [if_pos hk]

theorem grow_stays {A : St} {x : Blk} {B : St} {a k : Int} (h : find a (A ++ x :: B) = some A.length) (hA : Norm A) (h0 : 0 ≤ k) (h1 : k ≤ 32000) {SB : St} (hb : Behind x B (need k) SB) :
    grow (A ++ x :: B) a k = (A ++ ⟨need k, true, resize x.ws (need k - 1)⟩ :: fuse SB, a, 0) := by
  unfold grow
  rw [h]
  simp only
  rw [if_neg (by omega), drop_left]
  simp only [take_left]
  rcases hb with ⟨h2, rfl⟩ | ⟨h2, y, C, rfl, h3, h4, rfl⟩
  · rw [if_pos h2, fuse_used rfl hA]
  · rw [if_neg (by omega)]
    simp only
    rw [if_pos ⟨h3, h4⟩, fuse_used rfl hA]

/-- Neither is there room in the block nor with the one behind it. -/
def Tight (x : Blk) (B : St) (m : Nat) : Prop := x.size < m ∧ ∀ y C, B = y :: C → ¬ (y.used = false ∧ m ≤ x.size + y.size)

theorem grow_away {A : St} {x : Blk} {B : St} {a k : Int} (h : find a (A ++ x :: B) = some A.length) (h0 : 0 ≤ k) (h1 : k ≤ 32000) (hb : Tight x B (need k)) :
    grow (A ++ x :: B) a k = match get (A ++ x :: B) k with
      | (T, to, 0) => ((put (match find to T with | some j => setWords T j (resize x.ws (need k - 1)) | none => T) a).1, to, 0)
      | (_, _, e) => (A ++ x :: B, 0, e) := by
  unfold grow
  rw [h]
  simp only
  rw [if_neg (by omega), drop_left]
  simp only
  rw [if_neg (by have := hb.1; omega)]
  cases B with
  | nil => rfl
  | cons y C => simp only; rw [if_neg (hb.2 y C rfl)]; rfl

theorem tight_or (x : Blk) (B : St) (m : Nat) : Tight x B m ∨ ∃ SB, Behind x B m SB := by
  by_cases h : m ≤ x.size
  · exact .inr ⟨_, .inl ⟨h, rfl⟩⟩
  · cases B with
    | nil => exact .inl ⟨by omega, fun y C e => by cases e⟩
    | cons y C =>
      by_cases h2 : y.used = false ∧ m ≤ x.size + y.size
      · exact .inr ⟨_, .inr ⟨by omega, y, C, rfl, h2.1, h2.2, rfl⟩⟩
      · exact .inl ⟨by omega, fun y' C' e => by cases e; exact h2⟩

theorem grow_fail {A : St} {x : Blk} {B : St} {a k : Int} (h : find a (A ++ x :: B) = some A.length) (h0 : 0 ≤ k) (h1 : k ≤ 32000) (hb : Tight x B (need k)) {T : St} {to e : Int} (hg : get (A ++ x :: B) k = (T, to, e)) (he : e ≠ 0) :
    grow (A ++ x :: B) a k = (A ++ x :: B, 0, e) := by
  rw [grow_away h h0 h1 hb, hg]
  split
  · rename_i h; cases h; exact absurd rfl he
  · rename_i h; cases h; rfl
theorem grow_moves {A : St} {x : Blk} {B : St} {a k : Int} (h : find a (A ++ x :: B) = some A.length) (h0 : 0 ≤ k) (h1 : k ≤ 32000) (hb : Tight x B (need k)) {T : St} {to : Int} (hg : get (A ++ x :: B) k = (T, to, 0)) {j : Nat} (hj : find to T = some j) :
    grow (A ++ x :: B) a k = ((put (setWords T j (resize x.ws (need k - 1))) a).1, to, 0) := by
  rw [grow_away h h0 h1 hb, hg]
  simp only [hj]
theorem good_resize {ws : List Int} {m : Nat} (h2 : 2 ≤ m) (he : m % 2 = 0) (hw : ∀ v ∈ ws, (Lit.int .i64 v).wf = true) : Good ⟨m, true, resize ws (m - 1)⟩ :=
  ⟨h2, he, fun _ => by simp [resize, zeros]; omega, (by intro h; cases h), fun v hv => by
    rcases List.mem_append.1 (List.mem_of_mem_take hv) with q | q
    · exact hw v q
    · simp [zeros] at q; rw [q.2]; rfl⟩

theorem grow_ok {n : Nat} {A : St} {x : Blk} {B : St} (h : Ok n (A ++ x :: B)) (_hu : x.used = true) {k : Int} {SB : St} (hb : Behind x B (need k) SB) : Ok n (A ++ ⟨need k, true, resize x.ws (need k - 1)⟩ :: fuse SB) := by
  obtain ⟨n1, n2, n3⟩ := norm_append.1 h.norm
  obtain ⟨g2, ge⟩ := need_good k
  have hx := h.good x (by simp)
  have hsum : need k + sz SB = x.size + sz B ∧ ∀ b ∈ SB, Good b := by
    rcases hb with ⟨h2, rfl⟩ | ⟨h2, y, C, rfl, h3, h4, rfl⟩
    · refine ⟨by rw [sz_append, rest_sum h2]; omega, fun b hb => ?_⟩
      rcases List.mem_append.1 hb with q | q
      · exact rest_good h2 hx.even ge b q
      · exact h.good b (by simp [q])
    · have hy := h.good y (by simp)
      refine ⟨by rw [sz_append, rest_sum h4]; simp only [sz]; omega, fun b hb => ?_⟩
      rcases List.mem_append.1 hb with q | q
      · exact rest_good h4 (by have := hx.even; have := hy.even; omega) ge b q
      · exact h.good b (by simp [q])
  refine ⟨h.lo, h.hi, h.even, ?_, ?_, norm_append.2 ⟨n1, norm_cons.2 ⟨fun b R e hh => (by cases hh.1), norm_fuse _⟩, fun A' a b B' e1 e2 hh => ?_⟩⟩
  · have := h.sum
    rw [sz_append] at this ⊢
    simp only [sz] at this ⊢
    rw [sz_fuse]
    omega
  · intro b hb
    rcases List.mem_append.1 hb with hb | hb
    · exact h.good b (by simp [hb])
    · rcases List.mem_cons.1 hb with rfl | hb
      · exact good_resize g2 ge hx.wf
      · exact good_fuse _ hsum.2 b hb
  · cases e2; cases hh.2
end Go.Sto
