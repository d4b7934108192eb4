/-
  The plain law of the store's list: the blocks in use, by their addresses.
-/
import Derived.Test.YtahfoejffibahaaQStoPure1
import Derived.Test.YtahfoejffibahaaQStoFreeWords
namespace Go.Sto

/-- The blocks in use: addresses and words. -/
def U : Nat → St → List (Int × List Int)
  | _, [] => []
  | at_, b :: r => if b.used then ((at_ : Int) + 1, b.ws) :: U (at_ + b.size) r else U (at_ + b.size) r

theorem U_append : ∀ (A B : St) (a : Nat), U a (A ++ B) = U a A ++ U (a + sz A) B
  | [], B, a => by simp [U, sz]
  | b :: A, B, a => by
    simp only [List.cons_append, U, sz]
    rw [U_append A B, Nat.add_assoc]
    split <;> simp

theorem U_hole (m a : Nat) (R : St) : U a (hole m :: R) = U (a + m) R := by simp [U, hole]

theorem U_add (b : Blk) (R : St) (a : Nat) : U a (add b R) = U a (b :: R) := by
  cases R with
  | nil => rfl
  | cons c R =>
    unfold add
    simp only []
    split
    · rename_i h
      rw [U_hole]
      simp [U, h.1, h.2, Nat.add_assoc]
    · rfl

theorem U_fuse : ∀ (S : St) (a : Nat), U a (fuse S) = U a S
  | [], _ => rfl
  | b :: S, a => by
    show U a (add b (fuse S)) = _
    rw [U_add]
    simp only [U]
    rw [U_fuse S]

theorem U_rest (n m a : Nat) (R : St) (_h : m ≤ n) : U a (rest n m ++ R) = U (a + (n - m)) R := by
  unfold rest
  split
  · rename_i h; simp [h]
  · rw [List.cons_append, U_hole]; rfl

theorem U_ge : ∀ {S : St} {a : Nat} {x : Int × List Int}, x ∈ U a S → (a : Int) < x.1
  | [], _, _, h => by cases h
  | b :: S, a, x, h => by
    unfold U at h
    split at h
    · rcases List.mem_cons.1 h with rfl | h
      · simp; omega
      · have := U_ge h; omega
    · have := U_ge h; omega

theorem U_lt : ∀ {S : St} {a : Nat} {x : Int × List Int}, (∀ b ∈ S, 2 ≤ b.size) → x ∈ U a S → x.1 < (a + sz S : Nat)
  | [], _, _, _, h => by cases h
  | b :: S, a, x, hg, h => by
    have hb := hg b (by simp)
    unfold U at h
    split at h
    · rcases List.mem_cons.1 h with rfl | h
      · simp [sz]; omega
      · have := U_lt (fun c hc => hg c (by simp [hc])) h; simp [sz]; omega
    · have := U_lt (fun c hc => hg c (by simp [hc])) h; simp [sz]; omega

/-- A block in use by its address. -/
theorem U_mem : ∀ {S : St} {a : Nat} {x : Int × List Int}, x ∈ U a S → ∃ A b B, S = A ++ b :: B ∧ b.used = true ∧ x = (((a + sz A : Nat) : Int) + 1, b.ws)
  | [], _, _, h => by cases h
  | c :: S, a, x, h => by
    unfold U at h
    split at h
    · rename_i hc
      rcases List.mem_cons.1 h with rfl | h
      · exact ⟨[], c, S, rfl, hc, by simp [sz]⟩
      · obtain ⟨A, b, B, rfl, hb, rfl⟩ := U_mem h
        exact ⟨c :: A, b, B, rfl, hb, by simp [sz, Nat.add_assoc]⟩
    · obtain ⟨A, b, B, rfl, hb, rfl⟩ := U_mem h
      exact ⟨c :: A, b, B, rfl, hb, by simp [sz, Nat.add_assoc]⟩

theorem find_at {A : St} {b : Blk} {B : St} (hg : ∀ b ∈ A, 2 ≤ b.size) (hb : b.used = true) : find ((sz A : Int) + 1) (A ++ b :: B) = some A.length := by
  refine hit_at (by simp [isAt, hb]) fun A' y B' e => ?_
  have : sz A' < sz A := by
    rw [e, sz_append]
    have := hg y (by rw [e]; simp)
    simp [sz]; omega
  simp only [isAt, Nat.zero_add, Bool.and_eq_false_iff, decide_eq_false_iff_not]
  right; omega

section
variable {n : Nat} {S : St}

theorem Ok.two (h : Ok n S) : ∀ b ∈ S, 2 ≤ b.size := fun b hb => (h.good b hb).two

/-- What stands at an address in use. -/
theorem Ok.split (h : Ok n S) {x : Int × List Int} (hx : x ∈ U 0 S) : ∃ A b B, S = A ++ b :: B ∧ b.used = true ∧ x.1 = (sz A : Int) + 1 ∧ x.2 = b.ws ∧ find x.1 S = some A.length ∧ U 0 S = U 0 A ++ x :: U (sz A + b.size) B := by
  obtain ⟨A, b, B, rfl, hb, rfl⟩ := U_mem hx
  refine ⟨A, b, B, rfl, hb, by simp, rfl, ?_, ?_⟩
  · simp only [Nat.zero_add]
    exact find_at (fun c hc => h.two c (by simp [hc])) hb
  · rw [U_append]; simp [U, hb]

theorem Ok.nodup (h : Ok n S) : ((U 0 S).map Prod.fst).Nodup := by
  have : ∀ (S : St) (a : Nat), (∀ b ∈ S, 2 ≤ b.size) → ((U a S).map Prod.fst).Nodup := by
    intro S
    induction S with
    | nil => intro a _; simp [U]
    | cons b S ih =>
      intro a hg
      have h1 := ih (a + b.size) fun c hc => hg c (by simp [hc])
      unfold U
      split
      · rw [List.map_cons, List.nodup_cons]
        refine ⟨fun hm => ?_, h1⟩
        obtain ⟨x, hx, e⟩ := List.mem_map.1 hm
        have := U_ge hx
        have := hg b (by simp)
        simp at e
        omega
      · exact h1
  exact this S 0 h.two

theorem Ok.pos (h : Ok n S) {x : Int × List Int} (hx : x ∈ U 0 S) : 0 < x.1 ∧ x.1 < 32000 ∧ 1 ≤ x.2.length := by
  obtain ⟨A, b, B, e, hu, e1, e2, -, -⟩ := h.split hx
  have h1 := U_ge hx
  have h2 := U_lt h.two hx
  have h3 := h.sum
  have h4 := h.hi
  have hg := h.good b (by rw [e]; simp)
  have := hg.full hu
  have := hg.two
  rw [h3] at h2
  refine ⟨by omega, by omega, by rw [e2]; omega⟩

/-! ### What the calls do to them -/

theorem pair_split {X X' Y Y' : List (Int × List Int)} {x : Int × List Int} (hn : ((X ++ x :: Y).map Prod.fst).Nodup) (e : X ++ x :: Y = X' ++ x :: Y') : X = X' ∧ Y = Y' := by
  have key : ∀ {A B : List (Int × List Int)}, ((A ++ x :: B).map Prod.fst).Nodup → ((A ++ x :: B).map Prod.fst).idxOf x.1 = A.length := by
    intro A B h
    rw [List.map_append, List.map_cons] at h ⊢
    have hm : x.1 ∉ A.map Prod.fst := fun hm => (List.nodup_append.1 h).2.2 _ hm x.1 (by simp) rfl
    rw [List.idxOf_append, if_neg hm]
    simp
  have h1 := key hn
  have hn2 := hn
  rw [e] at hn2
  have h2 := key hn2
  rw [e] at h1
  have := List.append_inj e (by rw [← h1, ← h2])
  exact ⟨this.1, by have := this.2; simpa using this⟩

theorem put_U (h : Ok n S) {X Y : List (Int × List Int)} {x : Int × List Int} (hx : U 0 S = X ++ x :: Y) : ∃ S', put S x.1 = (S', 0) ∧ U 0 S' = X ++ Y ∧ Ok n S' := by
  have hm : x ∈ U 0 S := by rw [hx]; simp
  obtain ⟨A, b, B, e, hu, e1, e2, hf, hU⟩ := h.split hm
  refine ⟨fuse (A ++ hole b.size :: B), ?_, ?_, ?_⟩
  · unfold put
    rw [hf]
    simp only [freeAt]
    rw [e, take_left, drop_left]
  · rw [U_fuse, U_append, U_hole]
    have hn := h.nodup
    rw [hU] at hx hn
    have := pair_split hn hx
    rw [Nat.zero_add, this.1, this.2]
  · rw [e] at h; exact put_ok h

theorem read_U (h : Ok n S) {x : Int × List Int} (hx : x ∈ U 0 S) {i : Int} (h0 : 0 ≤ i) (h1 : i < x.2.length) : read S x.1 i = (x.2.getD i.toNat 0, 0) := by
  obtain ⟨A, b, B, e, hu, e1, e2, hf, hU⟩ := h.split hx
  unfold read
  rw [hf]
  simp only []
  have : wordsAt S A.length = x.2 := by rw [e, e2]; unfold wordsAt; rw [drop_left]
  rw [this, if_neg (by omega)]

theorem size_U (h : Ok n S) {x : Int × List Int} (hx : x ∈ U 0 S) : size S x.1 = ((x.2.length : Int), 0) := by
  obtain ⟨A, b, B, e, hu, e1, e2, hf, hU⟩ := h.split hx
  unfold size
  rw [hf]
  simp only []
  have : wordsAt S A.length = x.2 := by rw [e, e2]; unfold wordsAt; rw [drop_left]
  rw [this]

theorem write_U (h : Ok n S) {x : Int × List Int} (hx : x ∈ U 0 S) {i v : Int} (hv : (Lit.int .i64 v).wf = true) (h0 : 0 ≤ i) (h1 : i < x.2.length) :
    ∃ S' X Y, write S x.1 i v = (S', 0) ∧ U 0 S = X ++ x :: Y ∧ U 0 S' = X ++ (x.1, x.2.set i.toNat v) :: Y ∧ Ok n S' := by
  obtain ⟨A, b, B, e, hu, e1, e2, hf, hU⟩ := h.split hx
  refine ⟨A ++ ⟨b.size, b.used, b.ws.set i.toNat v⟩ :: B, U 0 A, U (sz A + b.size) B, ?_, hU, ?_, ?_⟩
  · unfold write
    rw [hf]
    simp only []
    have : wordsAt S A.length = x.2 := by rw [e, e2]; unfold wordsAt; rw [drop_left]
    rw [this, if_neg (by omega)]
    unfold setWords
    rw [e, take_left, drop_left, e2]
  · rw [U_append]
    simp only [U, hu, if_true, Nat.zero_add, e1, e2]
  · rw [e] at h
    have hx' := h.good b (by simp)
    refine ⟨h.lo, h.hi, h.even, by rw [← h.sum, sz_append, sz_append]; rfl, fun c hc => ?_, ?_⟩
    · rcases List.mem_append.1 hc with hc | hc
      · exact h.good c (by simp [hc])
      · rcases List.mem_cons.1 hc with rfl | hc
        · refine ⟨hx'.two, hx'.even, fun hu => by simp; exact hx'.full hu, fun h' => (by rw [hu] at h'; cases h'), fun u hu' => ?_⟩
          rcases List.mem_or_eq_of_mem_set hu' with hu' | rfl
          · exact hx'.wf u hu'
          · exact hv
        · exact h.good c (by simp [hc])
    · obtain ⟨n1, n2, n3⟩ := norm_append.1 h.norm
      obtain ⟨m1, m2⟩ := norm_cons.1 n2
      exact norm_append.2 ⟨n1, norm_cons.2 ⟨m1, m2⟩, fun A' a b' B' q1 q2 => by cases q2; exact n3 A' a b B q1 rfl⟩

/-- Get: nothing, or a new block in use. -/
theorem get_U (h : Ok n S) (k : Int) : (∃ e, get S k = (S, 0, e) ∧ e ≠ 0) ∨
    ∃ S' a X Y, get S k = (S', a, 0) ∧ U 0 S = X ++ Y ∧ U 0 S' = X ++ (a, zeros (need k - 1)) :: Y ∧ Ok n S' ∧ 0 < a ∧ 0 ≤ k ∧ k ≤ 32000 := by
  unfold get
  by_cases hk : k < 0 ∨ 32000 < k
  · rw [if_pos hk]; exact .inl ⟨1, rfl, by decide⟩
  · rw [if_neg hk]
    cases hf : hit (fits (need k)) 0 S with
    | none => exact .inl ⟨2, rfl, by decide⟩
    | some i =>
      obtain ⟨A, b, B, e, hl, hb, -⟩ := hit_some hf
      simp only [fits, Bool.and_eq_true, Bool.not_eq_true', decide_eq_true_eq] at hb
      refine .inr ⟨A ++ ⟨need k, true, zeros (need k - 1)⟩ :: (rest b.size (need k) ++ B), (sz A : Int) + 1, U 0 A, U (sz A + b.size) B, ?_, ?_, ?_, ?_, by omega, by omega, by omega⟩
      · subst hl
        simp only [cutAt]
        rw [e, take_left, drop_left]
      · rw [e, U_append]; simp [U, hb.1]
      · rw [U_append]
        simp only [U, if_true, Nat.zero_add]
        rw [U_rest _ _ _ _ hb.2]
        congr 3
        have := hb.2
        omega
      · have hok : Ok n (A ++ b :: B) := e ▸ h
        exact take_ok hok hb.1 hb.2 (need_good k).1 (need_good k).2 _ (good_zeros (need_good k).1 (need_good k).2)

/-- Where nothing is in use memory is one block. -/
theorem one_block (h : Ok n S) (hU : U 0 S = []) : S = [hole n] := by
  have hfree : ∀ b ∈ S, b.used = false := by
    intro b hb
    obtain ⟨A, B, rfl⟩ := List.append_of_mem hb
    rw [U_append] at hU
    cases hu : b.used with
    | false => rfl
    | true => simp [U, hu] at hU
  match S, h with
  | [], h => have := h.sum; have := h.lo; simp [sz] at *; omega
  | [b], h =>
    have h1 := h.sum
    simp [sz] at h1
    have h2 := hfree b (by simp)
    have h3 := (h.good b (by simp)).bare h2
    cases b
    simp at h1 h2 h3
    subst h1; subst h2; subst h3; rfl
  | a :: b :: S, h => exact absurd ⟨hfree a (by simp), hfree b (by simp)⟩ h.norm.1
end
end Go.Sto

/-
  The most that can be got: no program in sight.
-/
namespace Go.Sto

theorem largest_ge {S : St} {b : Blk} (hb : b ∈ S) (hu : b.used = false) : b.size - 1 ≤ largest S := by
  induction S with
  | nil => cases hb
  | cons c S ih =>
    simp only [largest]
    rcases List.mem_cons.1 hb with rfl | hb
    · rw [hu]; simp; omega
    · have := ih hb; omega

theorem largest_is {S : St} (h : largest S ≠ 0) : ∃ b ∈ S, b.used = false ∧ b.size - 1 = largest S := by
  induction S with
  | nil => simp [largest] at h
  | cons c S ih =>
    simp only [largest] at h ⊢
    by_cases hc : largest S ≤ (if c.used then 0 else c.size - 1)
    · rw [Nat.max_eq_left hc] at h ⊢
      cases hu : c.used with
      | true => simp [hu] at h
      | false => exact ⟨c, by simp, hu, by simp⟩
    · rw [Nat.max_eq_right (by omega)] at h ⊢
      obtain ⟨b, hb, h1, h2⟩ := ih h
      exact ⟨b, by simp [hb], h1, h2⟩

theorem free_zero {S : St} (h : ∀ b ∈ S, Good b) : largest S = 0 ↔ freeWords S = 0 := by
  induction S with
  | nil => simp [largest, freeWords]
  | cons c S ih =>
    have h1 := (h c (by simp)).two
    have h2 := ih fun b hb => h b (by simp [hb])
    simp only [largest, freeWords]
    cases c.used with
    | true => simp; exact h2
    | false => simp; omega

theorem get_over {n : Nat} {S : St} (h : Ok n S) : get S ((largest S : Nat) + 1 : Int) = (S, 0, 2) := by
  have hle : largest S ≤ 31999 := by
    by_cases h0 : largest S = 0
    · omega
    · obtain ⟨b, hb, -, h2⟩ := largest_is h0
      have := size_le hb
      have := h.le
      omega
  rw [get_model (by omega) (by omega)]
  have : hit (fits (need ((largest S : Nat) + 1 : Int))) 0 S = none := hit_none fun A y B e => by
    unfold fits
    cases hu : y.used with
    | true => rfl
    | false =>
      have hy : y ∈ S := by rw [e]; simp
      have h1 := largest_ge hy hu
      have h2 := (h.good y hy).even
      have h3 := (h.good y hy).two
      simp only [Bool.not_false, Bool.true_and, decide_eq_false_iff_not]
      unfold need
      by_cases h0 : largest S = 0
      · omega
      · obtain ⟨b, hb, -, h5⟩ := largest_is h0
        have h6 := (h.good b hb).even
        omega
  rw [this]

theorem get_most {n : Nat} {S : St} (h : Ok n S) (h0 : largest S ≠ 0) : ∃ S' a, get S (largest S : Nat) = (S', a, 0) ∧ 0 < a := by
  obtain ⟨b, hb, hu, h2⟩ := largest_is h0
  have h3 := size_le hb
  have h4 := h.le
  have h5 := (h.good b hb).even
  rw [get_model (by omega) (by omega)]
  cases hh : hit (fits (need (largest S : Nat))) 0 S with
  | none =>
    obtain ⟨A, B, e⟩ := List.append_of_mem hb
    have := of_hit_none hh e
    simp only [fits, hu, Bool.not_false, Bool.true_and, decide_eq_false_iff_not] at this
    unfold need at this
    omega
  | some i => exact ⟨_, _, rfl, by omega⟩

theorem get_02 {S : St} {k : Int} (h0 : 0 ≤ k) (h1 : k ≤ 32000) : (get S k).2.2 = 0 ∨ (get S k).2.2 = 2 := by
  rw [get_model h0 h1]
  cases hit (fits (need k)) 0 S <;> simp

theorem freeWords_take {S : St} {j : Nat} {b : Blk} (h : S[j]? = some b) : freeWords (S.take (j + 1)) = freeWords (S.take j) + (if b.used then 0 else b.size) := by
  rw [List.take_add_one, h, freeWords_append]; simp [freeWords]
end Go.Sto
