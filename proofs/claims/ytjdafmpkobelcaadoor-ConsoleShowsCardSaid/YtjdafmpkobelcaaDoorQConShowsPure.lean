/-
  ConsoleShows: the plain part: the screen as lines of tasks, what is read back from it.
-/
import Derived.Test.YtjdafmpkobelcaaDoorQConEv
set_option linter.unusedVariables false

namespace Go.Con
open Go.Own

abbrev TL := Nat × Bytes

def pref (last k : Nat) : Bytes := if k = last then [] else numB k ++ [58, 32]
def render : Nat → List TL → Bytes
  | _, [] => []
  | last, (k, b) :: r => pref last k ++ b ++ [10] ++ render k r
def lastOf : Nat → List TL → Nat
  | last, [] => last
  | _, (k, _) :: r => lastOf k r
theorem lastOf_snoc (last : Nat) (G : List TL) (x : TL) : lastOf last (G ++ [x]) = x.1 := by
  induction G generalizing last with
  | nil => rfl
  | cons y r ih => exact ih y.1
theorem render_snoc (last : Nat) (G : List TL) (k : Nat) (b : Bytes) : render last (G ++ [(k, b)]) = render last G ++ (pref (lastOf last G) k ++ b ++ [10]) := by
  induction G generalizing last with
  | nil => simp [render, lastOf]
  | cons y r ih =>
    obtain ⟨k', b'⟩ := y
    simp only [List.cons_append, render, lastOf, ih, List.append_assoc]

/-- A byte that is no digit, no colon, no end of a line. -/
def clean (x : UInt8) : Prop := x.toNat ≠ 10 ∧ ¬ (48 ≤ x.toNat ∧ x.toNat ≤ 58)
def bodies (t : Nat) (G : List TL) : List Bytes := (G.filter fun x => decide (x.1 = t)).map Prod.snd
theorem bodies_snoc (t : Nat) (G : List TL) (k : Nat) (b : Bytes) : bodies t (G ++ [(k, b)]) = bodies t G ++ (if k = t then [b] else []) := by
  unfold bodies
  rw [List.filter_append, List.map_append]
  by_cases h : k = t
  · simp [h]
  · simp [h]

theorem seen_clean {x : UInt8} (h : ¬ (48 ≤ x.toNat ∧ x.toNat ≤ 58)) : clean (seen x) := by
  unfold seen clean
  split
  · exact ⟨by decide, by decide⟩
  · rename_i hc; exact ⟨by omega, h⟩

/-- The console's state, the lines that are on its screen, what each task wrote. -/
structure SI (S : CS) (G : List TL) (want : Nat → Bytes) : Prop where
  typed : S.typed = []
  screen : S.screen = render 1 G
  last : S.last = (lastOf 1 G : Nat)
  lines : ∀ x ∈ G, 1 ≤ x.1 ∧ x.1 ≤ 99 ∧ x.2.length ≤ 80 ∧ ∀ c ∈ x.2, clean c
  out : ∀ t : Nat, ∀ c ∈ S.out t, clean c
  all : ∀ t : Nat, (bodies t G).flatten ++ S.out t = want t

theorem SI.start : SI CS.new [] (fun _ => []) := ⟨rfl, rfl, rfl, (fun x hx => by cases hx), (fun _ _ hc => by cases hc), fun _ => rfl⟩

theorem SI.goes {S : CS} {G : List TL} {want : Nat → Bytes} (h : SI S G want) (ok : S.Ok) (k : Nat) (h1 : 1 ≤ k) (h2 : k ≤ 99) : SI (S.goes k) (G ++ [(k, S.out k)]) want := by
  refine ⟨h.typed, ?_, ?_, fun x hx => ?_, fun t c hc => ?_, fun t => ?_⟩
  · show S.screen ++ S.ahead k ++ S.out k ++ [10] ++ S.typed = _
    rw [h.typed, h.screen, render_snoc]
    unfold CS.ahead
    rw [h.typed, h.last]
    unfold pref
    by_cases hk : k = lastOf 1 G
    · rw [if_pos rfl, if_pos (by rw [hk]), if_pos hk]; simp
    · rw [if_pos rfl, if_neg (show ¬ (k : Int) = (lastOf 1 G : Nat) from fun e => hk (by omega)), if_neg hk]; simp
  · show (k : Int) = _
    rw [lastOf_snoc]
  · rcases List.mem_append.1 hx with q | q
    · exact h.lines x q
    · have e : x = (k, S.out k) := by simpa using q
      subst e
      exact ⟨h1, h2, ok.out k, h.out k⟩
  · have hc' : c ∈ upd S.out k [] t := hc
    unfold upd at hc'
    split at hc'
    · cases hc'
    · exact h.out t c hc'
  · rw [bodies_snoc]
    show _ ++ upd S.out k [] t = _
    by_cases e : k = t
    · subst e
      rw [if_pos rfl, upd_self, ← h.all k]; simp
    · rw [if_neg e, upd_ne _ _ (show (t : Int) ≠ (k : Int) by omega), ← h.all t]; simp

theorem SI.room {S : CS} {G : List TL} {want : Nat → Bytes} (h : SI S G want) (ok : S.Ok) (k : Nat) (h1 : 1 ≤ k) (h2 : k ≤ 99) : ∃ G', SI (S.room k) G' want := by
  unfold CS.room
  split
  · exact ⟨_, h.goes ok k h1 h2⟩
  · exact ⟨_, h⟩

/-- What a byte adds to what is wanted. -/
def add1 (x : UInt8) : Bytes := if x.toNat = 10 then [] else [seen x]
theorem SI.put {S : CS} {G : List TL} {want : Nat → Bytes} (h : SI S G want) (ok : S.Ok) (k : Nat) (h1 : 1 ≤ k) (h2 : k ≤ 99) (x : UInt8) (hx : ¬ (48 ≤ x.toNat ∧ x.toNat ≤ 58)) :
    ∃ G', SI (S.put k x) G' (fun t => if t = k then want t ++ add1 x else want t) := by
  unfold CS.put
  split
  · rename_i h10
    refine ⟨G ++ [(k, S.out k)], ?_⟩
    have e : (fun t => if t = k then want t ++ add1 x else want t) = want := funext fun t => by unfold add1; rw [if_pos h10]; simp
    rw [e]
    exact h.goes ok k h1 h2
  · rename_i h10
    obtain ⟨G', hg⟩ := h.room ok k h1 h2
    refine ⟨G', hg.typed, hg.screen, hg.last, hg.lines, fun t c hc => ?_, fun t => ?_⟩
    · have hc' : c ∈ upd (S.room k).out k ((S.room k).out k ++ [seen x]) t := hc
      unfold upd at hc'
      split at hc'
      · rcases List.mem_append.1 hc' with q | q
        · exact hg.out k c q
        · have e : c = seen x := by simpa using q
          rw [e]; exact seen_clean hx
      · exact hg.out t c hc'
    · show (bodies t G').flatten ++ upd (S.room k).out k ((S.room k).out k ++ [seen x]) t = if t = k then want t ++ add1 x else want t
      by_cases e : t = k
      · subst e
        rw [upd_self, if_pos rfl, ← hg.all t, List.append_assoc]; unfold add1; rw [if_neg h10]
      · rw [upd_ne _ _ (show (t : Int) ≠ (k : Int) by omega), if_neg e, ← hg.all t]

/-- What bytes that a task writes add to what is wanted of it. -/
def adds (l : Bytes) : Bytes := (l.filter fun x => decide (x.toNat ≠ 10)).map seen
theorem adds_snoc (l : Bytes) (x : UInt8) : adds (l ++ [x]) = adds l ++ add1 x := by
  unfold adds add1
  rw [List.filter_append, List.map_append]
  by_cases h : x.toNat = 10
  · simp [h]
  · simp [h]

theorem SI.write {k : Nat} (h1 : 1 ≤ k) (h2 : k ≤ 99) (l : Bytes) : ∀ {S : CS} {G : List TL} {want : Nat → Bytes}, SI S G want → S.Ok → (∀ x ∈ l, ¬ (48 ≤ x.toNat ∧ x.toNat ≤ 58)) →
    ∃ G', SI (S.write k l) G' (fun t => if t = k then want t ++ adds l else want t) := by
  induction l with
  | nil =>
    intro S G want h _ _
    have e : (fun t => if t = k then want t ++ adds [] else want t) = want := funext fun t => by simp [adds]
    rw [e]
    exact ⟨G, h⟩
  | cons x r ih =>
    intro S G want h ok hx
    obtain ⟨G1, g1⟩ := h.put ok k h1 h2 x (hx x (by simp))
    obtain ⟨G2, g2⟩ := ih g1 (CS.put_ok ok k x h1 h2) (fun y hy => hx y (List.mem_cons_of_mem _ hy))
    refine ⟨G2, ?_⟩
    have e : (fun t => if t = k then want t ++ adds (x :: r) else want t) = (fun t => if t = k then (if t = k then want t ++ add1 x else want t) ++ adds r else (if t = k then want t ++ add1 x else want t)) := funext fun t => by
      by_cases ht : t = k
      · rw [if_pos ht, if_pos ht, if_pos ht]
        have e2 : adds (x :: r) = add1 x ++ adds r := by
          unfold adds add1
          by_cases h : x.toNat = 10
          · simp [h]
          · simp [h]
        rw [e2, List.append_assoc]
      · rw [if_neg ht, if_neg ht, if_neg ht]
    rw [e]
    exact g2

theorem SI.flush {S : CS} {G : List TL} {want : Nat → Bytes} (h : SI S G want) (ok : S.Ok) (k : Nat) (h1 : 1 ≤ k) (h2 : k ≤ 99) : (∃ G', SI (S.flush k) G' want) ∧ (S.flush k).out k = [] ∧ ∀ t : Int, S.out t = [] → (S.flush k).out t = [] := by
  unfold CS.flush
  split
  · rename_i ho; exact ⟨⟨G, h⟩, ho, fun _ q => q⟩
  · refine ⟨⟨_, h.goes ok k h1 h2⟩, CS.goes_out S k, fun t q => ?_⟩
    show upd S.out k [] t = []
    unfold upd
    split
    · rfl
    · exact q

/-! ### What is read back -/
def digs (n k : Nat) : Bytes → Nat × Nat
  | [] => (n, k)
  | x :: r => if 48 ≤ x.toNat ∧ x.toNat ≤ 57 then digs (n * 10 + (x.toNat - 48)) (k + 1) r else (n, k)

structure Sh where
  own : Nat
  line : Bytes
  out : List Bytes

/-- A line has a task's number ahead. -/
def headed (m : Bytes) : Bool := decide (0 < (digs 0 0 m).2) && decide ((digs 0 0 m).2 + 1 < m.length) && decide (m[(digs 0 0 m).2]? = some 58) && decide (m[(digs 0 0 m).2 + 1]? = some 32)
def Sh.ends (s : Sh) (task : Int) : Sh :=
  let o := if headed s.line = true then (digs 0 0 s.line).1 else s.own
  let m := if headed s.line = true then s.line.drop ((digs 0 0 s.line).2 + 2) else s.line
  ⟨o, [], if (o : Int) = task then s.out ++ [m] else s.out⟩
def Sh.step (task : Int) (s : Sh) (x : UInt8) : Sh := if x.toNat = 10 then s.ends task else { s with line := s.line ++ [x] }
def Sh.run (task : Int) (s : Sh) (l : Bytes) : Sh := l.foldl (Sh.step task) s

theorem Sh.run_line (task : Int) (m : Bytes) (hm : ∀ c ∈ m, c.toNat ≠ 10) : ∀ s : Sh, s.run task m = { s with line := s.line ++ m } := by
  unfold Sh.run
  induction m with
  | nil => intro s; simp
  | cons x r ih =>
    intro s
    have hx := hm x (by simp)
    simp only [List.foldl_cons]
    rw [show Sh.step task s x = { s with line := s.line ++ [x] } from by unfold Sh.step; rw [if_neg hx], ih (fun c hc => hm c (List.mem_cons_of_mem _ hc))]
    simp

theorem digs_clean {b : Bytes} (h : ∀ c ∈ b, clean c) (n k : Nat) : digs n k b = (n, k) := by
  cases b with
  | nil => rfl
  | cons x r =>
    have := (h x (by simp)).2
    unfold digs
    rw [if_neg (by omega)]

theorem digs_num (k : Nat) (hk : k ≤ 99) (r : Bytes) : digs 0 0 (numB k ++ 58 :: r) = (k, (numB k).length) := by
  have h10 : ∀ m : Nat, m < 10 → (UInt8.ofNat (48 + m)).toNat = 48 + m := fun m hm => UInt8.toNat_ofNat_of_lt' (by simp [UInt8.size]; omega)
  have h58 : ∀ n j, digs n j (58 :: r) = (n, j) := fun n j => by unfold digs; rw [if_neg (by decide)]
  unfold numB
  split
  · rename_i h
    show digs 0 0 (UInt8.ofNat (48 + k) :: 58 :: r) = _
    unfold digs
    rw [h10 k h, if_pos (by omega), h58]
    simp
  · rename_i h
    show digs 0 0 (UInt8.ofNat (48 + k / 10) :: UInt8.ofNat (48 + k % 10) :: 58 :: r) = _
    unfold digs
    rw [h10 (k / 10) (by omega), if_pos (by omega)]
    unfold digs
    rw [h10 (k % 10) (by omega), if_pos (by omega), h58]
    simp
    omega

theorem headed_clean {b : Bytes} (h : ∀ c ∈ b, clean c) : headed b = false := by
  unfold headed
  rw [digs_clean h]
  simp
theorem headed_num (k : Nat) (hk : k ≤ 99) (b : Bytes) : headed (numB k ++ [58, 32] ++ b) = true ∧ (digs 0 0 (numB k ++ [58, 32] ++ b)).1 = k ∧ (numB k ++ [58, 32] ++ b).drop ((digs 0 0 (numB k ++ [58, 32] ++ b)).2 + 2) = b ∧ (digs 0 0 (numB k ++ [58, 32] ++ b)).2 ≤ 2 := by
  have e : numB k ++ [58, 32] ++ b = numB k ++ 58 :: (32 :: b) := by simp
  have hn := numB_length k
  rw [e]
  unfold headed
  rw [digs_num k hk]
  refine ⟨?_, rfl, ?_, hn.2⟩
  · have a1 : (numB k ++ 58 :: 32 :: b)[(numB k).length]? = some 58 := by simp
    have a2 : (numB k ++ 58 :: 32 :: b)[(numB k).length + 1]? = some 32 := by
      rw [List.getElem?_append_right (by omega)]
      simp [Nat.add_sub_cancel_left]
    simp only [a1, a2]
    simp
    omega
  · show (numB k ++ 58 :: 32 :: b).drop ((numB k).length + 2) = b
    rw [← List.drop_drop, List.drop_left' rfl]
    rfl

theorem numB_no10 (k : Nat) (hk : k ≤ 99) : ∀ c ∈ numB k, c.toNat ≠ 10 := by
  have h10 : ∀ m : Nat, m < 10 → (UInt8.ofNat (48 + m)).toNat = 48 + m := fun m hm => UInt8.toNat_ofNat_of_lt' (by simp [UInt8.size]; omega)
  unfold numB
  intro c hc
  split at hc
  · rename_i h
    have e : c = UInt8.ofNat (48 + k) := by simpa using hc
    rw [e, h10 k h]; omega
  · rename_i h
    have e : c = UInt8.ofNat (48 + k / 10) ∨ c = UInt8.ofNat (48 + k % 10) := by simpa using hc
    rcases e with e | e
    · rw [e, h10 _ (by omega)]; omega
    · rw [e, h10 _ (by omega)]; omega

theorem shown_all (task : Int) (G : List TL) : ∀ (last : Nat) (o : List Bytes), (∀ x ∈ G, 1 ≤ x.1 ∧ x.1 ≤ 99 ∧ x.2.length ≤ 80 ∧ ∀ c ∈ x.2, clean c) →
    (⟨last, [], o⟩ : Sh).run task (render last G) = ⟨lastOf last G, [], o ++ (G.filter fun x => decide ((x.1 : Int) = task)).map Prod.snd⟩ := by
  induction G with
  | nil => intro last o _; simp [render, lastOf, Sh.run]
  | cons y r ih =>
    intro last o hG
    obtain ⟨k, b⟩ := y
    obtain ⟨h1, h2, h3, h4⟩ := hG (k, b) (by simp)
    simp only at h1 h2 h3 h4
    have hr := fun x hx => hG x (List.mem_cons_of_mem _ hx)
    obtain ⟨m, hm⟩ : ∃ m, pref last k ++ b = m := ⟨_, rfl⟩
    have hm10 : ∀ c ∈ m, c.toNat ≠ 10 := fun c hc => by
      rw [← hm] at hc
      rcases List.mem_append.1 hc with q | q
      · unfold pref at q
        split at q
        · cases q
        · rcases List.mem_append.1 q with q | q
          · exact numB_no10 k h2 c q
          · have e : c = 58 ∨ c = 32 := by simpa using q
            rcases e with e | e <;> (rw [e]; decide)
      · exact (h4 c q).1
    have hend : (⟨last, m, o⟩ : Sh).ends task = ⟨k, [], if (k : Int) = task then o ++ [b] else o⟩ := by
      unfold Sh.ends
      unfold pref at hm
      by_cases hk : k = last
      · rw [if_pos hk, List.nil_append] at hm
        subst hm
        simp only [headed_clean h4, Bool.false_eq_true, if_false, hk]
      · rw [if_neg hk] at hm
        have hh := headed_num k h2 b
        rw [hm] at hh
        simp only [hh.1, if_true, hh.2.1, hh.2.2.1]
    show (⟨last, [], o⟩ : Sh).run task (pref last k ++ b ++ [10] ++ render k r) = _
    rw [hm]
    unfold Sh.run
    rw [List.foldl_append, List.foldl_append]
    have e1 : List.foldl (Sh.step task) ⟨last, [], o⟩ m = ⟨last, m, o⟩ := by
      have := Sh.run_line task m hm10 ⟨last, [], o⟩
      unfold Sh.run at this
      rw [this]; simp
    rw [e1]
    simp only [List.foldl_cons, List.foldl_nil]
    rw [show Sh.step task ⟨last, m, o⟩ 10 = (⟨last, m, o⟩ : Sh).ends task from by unfold Sh.step; rw [if_pos (by decide)], hend]
    have := ih k (if (k : Int) = task then o ++ [b] else o) hr
    unfold Sh.run at this
    rw [this]
    simp only [lastOf, List.filter_cons]
    by_cases ht : (k : Int) = task
    · simp [ht]
    · simp [ht]

/-- A line has no digit ahead, or a task's number. -/
def Hd (m : Bytes) : Prop := (digs 0 0 m).2 = 0 ∨ (headed m = true ∧ (digs 0 0 m).2 ≤ 2)
/-- So it is at each end of a line. -/
def Gd (task : Int) : Sh → Bytes → Prop
  | _, [] => True
  | s, x :: r => (x.toNat = 10 → Hd s.line) ∧ Gd task (s.step task x) r
theorem Gd.append {task : Int} (a b : Bytes) : ∀ {s : Sh}, Gd task s a → Gd task (s.run task a) b → Gd task s (a ++ b) := by
  induction a with
  | nil => intro s _ h; exact h
  | cons x r ih => intro s h1 h2; exact ⟨h1.1, ih h1.2 h2⟩
theorem Gd.plain {task : Int} (a : Bytes) (h : ∀ c ∈ a, c.toNat ≠ 10) : ∀ s : Sh, Gd task s a := by
  induction a with
  | nil => intro s; trivial
  | cons x r ih => intro s; exact ⟨fun e => absurd e (h x (by simp)), ih (fun c hc => h c (List.mem_cons_of_mem _ hc)) _⟩
theorem Gd.at_ {task : Int} (l : Bytes) : ∀ {s : Sh}, Gd task s l → ∀ i x, l[i]? = some x → x.toNat = 10 → Hd (s.run task (l.take i)).line := by
  induction l with
  | nil => intro s _ i x hx; simp at hx
  | cons y r ih =>
    intro s h i x hx h10
    cases i with
    | zero =>
      have e : y = x := by simpa using hx
      subst e
      exact h.1 h10
    | succ i => exact ih h.2 i x (by simpa using hx) h10
theorem Sh.run_append (task : Int) (s : Sh) (a b : Bytes) : s.run task (a ++ b) = (s.run task a).run task b := by unfold Sh.run; rw [List.foldl_append]
theorem Sh.line_len (task : Int) (l : Bytes) : ∀ s : Sh, (s.run task l).line.length ≤ s.line.length + l.length := by
  unfold Sh.run
  induction l with
  | nil => intro s; simp
  | cons x r ih =>
    intro s
    have h := ih (s.step task x)
    have h2 : (s.step task x).line.length ≤ s.line.length + 1 := by
      unfold Sh.step
      split
      · show ([] : Bytes).length ≤ _; simp
      · simp
    simp only [List.foldl_cons, List.length_cons]
    omega
theorem Sh.out_len (task : Int) (l : Bytes) : ∀ s : Sh, (s.run task l).out.length ≤ s.out.length + l.length := by
  unfold Sh.run
  induction l with
  | nil => intro s; simp
  | cons x r ih =>
    intro s
    have h := ih (s.step task x)
    have h2 : (s.step task x).out.length ≤ s.out.length + 1 := by
      unfold Sh.step
      split
      · unfold Sh.ends
        have hl : ∀ (P : Prop) [Decidable P] (y : Bytes), (if P then s.out ++ [y] else s.out).length ≤ s.out.length + 1 := fun P _ y => by
          split
          · rw [List.length_append]; exact Nat.le_refl _
          · exact Nat.le_succ _
        exact hl _ _
      · exact Nat.le_succ _
    simp only [List.foldl_cons, List.length_cons]
    omega

theorem shown_gd (task : Int) (G : List TL) : ∀ (last : Nat) (o : List Bytes), (∀ x ∈ G, 1 ≤ x.1 ∧ x.1 ≤ 99 ∧ x.2.length ≤ 80 ∧ ∀ c ∈ x.2, clean c) → Gd task ⟨last, [], o⟩ (render last G) := by
  induction G with
  | nil => intro last o _; trivial
  | cons y r ih =>
    intro last o hG
    obtain ⟨k, b⟩ := y
    have hone := shown_all task [(k, b)] last o (fun x hx => hG x (List.mem_cons.2 (.inl (by simpa using hx))))
    obtain ⟨h1, h2, h3, h4⟩ := hG (k, b) (by simp)
    simp only at h1 h2 h3 h4
    have hr := fun x hx => hG x (List.mem_cons_of_mem _ hx)
    have hm10 : ∀ c ∈ pref last k ++ b, c.toNat ≠ 10 := fun c hc => by
      rcases List.mem_append.1 hc with q | q
      · unfold pref at q
        split at q
        · cases q
        · rcases List.mem_append.1 q with q | q
          · exact numB_no10 k h2 c q
          · have e : c = 58 ∨ c = 32 := by simpa using q
            rcases e with e | e <;> (rw [e]; decide)
      · exact (h4 c q).1
    have e1 : render last [(k, b)] = pref last k ++ b ++ [10] := by simp [render]
    rw [e1] at hone
    show Gd task ⟨last, [], o⟩ (pref last k ++ b ++ [10] ++ render k r)
    refine Gd.append _ _ (Gd.append _ _ (Gd.plain _ hm10 _) ⟨fun _ => ?_, trivial⟩) ?_
    · rw [Sh.run_line task _ hm10]
      show Hd ([] ++ (pref last k ++ b))
      rw [List.nil_append]
      unfold pref
      split
      · rw [List.nil_append]; left; rw [digs_clean h4]
      · right; exact ⟨(headed_num k h2 b).1, (headed_num k h2 b).2.2.2⟩
    · rw [hone]
      exact ih k _ hr
end Go.Con
