/-
  Bytes without those that choose tasks and without those for flags: the program's plain and the reference's Plain make the same list.
-/
import Derived.Test.YtjdafmpkobelcaaRefType
import Derived.Test.YtjdafmpkobelcaaConEq
namespace Go.Con
open Go.Own Go.RowKit Go.Proofs

def pstep (s : Nat × Bytes) (b : UInt8) : Nat × Bytes :=
  if 0 < s.1 ∧ isDigit b = true then (s.1 - 1, s.2) else if b.toNat = 20 then (2, s.2) else if 1 ≤ b.toNat ∧ b.toNat ≤ 4 then (0, s.2) else (0, s.2 ++ [b])
def pst (l : Bytes) : Nat × Bytes := l.foldl pstep (0, [])
def plainOf (l : Bytes) : Bytes := (pst l).2

theorem pst_succ (l : Bytes) (i : Nat) (h : i < l.length) : pst (l.take (i + 1)) = pstep (pst (l.take i)) l[i] := by
  unfold pst
  rw [List.take_succ_eq_append_getElem h, List.foldl_append]
  rfl
theorem pstep_le (s : Nat × Bytes) (b : UInt8) (h : s.1 ≤ 2) : (pstep s b).1 ≤ 2 ∧ (pstep s b).2.length ≤ s.2.length + 1 := by
  unfold pstep
  repeat' split
  all_goals simp; try omega
theorem foldl_le (l : Bytes) : ∀ s : Nat × Bytes, s.1 ≤ 2 → (l.foldl pstep s).1 ≤ 2 ∧ (l.foldl pstep s).2.length ≤ s.2.length + l.length := by
  induction l with
  | nil => intro s h; exact ⟨h, Nat.le_refl _⟩
  | cons b r ih =>
    intro s h
    have h1 := pstep_le s b h
    have h2 := ih _ h1.1
    simp only [List.foldl_cons, List.length_cons]
    omega
theorem pst_le (l : Bytes) : (pst l).1 ≤ 2 ∧ (pst l).2.length ≤ l.length := by
  have := foldl_le l (0, []) (by simp)
  simpa [pst] using this

/-- A list that is being built: its row is new. -/
structure Built (w0 : World) (e : TypeId) (sz : Nat) (v : Value) (xs : List Value) (w : World) : Prop where
  at_ : SliceAt w e sz v xs
  new : ∀ b, v.ownBlock = some b → w0.heap.size ≤ b
  old : Turn (fun k => w0.heap.size ≤ k) w0 w

theorem Built.nil (w0 : World) (e : TypeId) (sz : Nat) : Built w0 e sz (.slice none 0 0) [] w0 := ⟨SliceAt.nil _ _ _, fun b hb => by simp [Value.ownBlock] at hb, Turn.refl _ _⟩
theorem Built.turn {w0 : World} {e : TypeId} {sz : Nat} {v : Value} {xs : List Value} {w w' : World} (h : Built w0 e sz v xs w) {T : Nat → Prop} (ht : Turn T w w') (hT : ∀ k, T k → w0.heap.size ≤ k) (hv : ∀ b, v.ownBlock = some b → ¬ T b) : Built w0 e sz v xs w' :=
  ⟨h.at_.turn ht hv, h.new, h.old.trans ⟨ht.os, ht.tape, ht.output, ht.size, fun k hk hn => ht.block k hk fun hh => hn (hT k hh)⟩⟩
theorem Built.alloc {w0 : World} {e : TypeId} {sz : Nat} {v : Value} {xs : List Value} {w : World} (h : Built w0 e sz v xs w) (o : Obj) : Built w0 e sz v xs (w.alloc o) :=
  h.turn (T := fun _ => False) ((Turn.refl _ _).alloc o) (fun _ hh => hh.elim) (fun _ _ hh => hh)
theorem Built.grown {w0 : World} {e : TypeId} {sz : Nat} {v v' : Value} {xs ys : List Value} {w w' : World} (h : Built w0 e sz v xs w) (ht : Turn (fun k => v.ownBlock = some k) w w') (hs : SliceAt w' e sz v' ys) (hw : v'.ownBlock = v.ownBlock ∨ v'.ownBlock = some w.heap.size) : Built w0 e sz v' ys w' := by
  refine ⟨hs, fun b hb => ?_, h.old.trans ⟨ht.os, ht.tape, ht.output, ht.size, fun k hk hn => ht.block k hk fun hh => hn (h.new k hh)⟩⟩
  rcases hw with hw | hw
  · exact h.new b (hw ▸ hb)
  · rw [hw] at hb; cases hb; exact h.old.size

theorem BCells.old {w0 w : World} {a : Option Addr} {l : Bytes} (h : BCells w0 a l) (t : Turn (fun k => w0.heap.size ≤ k) w0 w) : BCells w a l := by
  rcases h with h | ⟨b, off, ha, hc⟩
  · exact .inl h
  · refine .inr ⟨b, off, ha, fun i hi => ?_⟩
    have hb := World.block_lt_of_cell? w0 _ (hc i hi)
    rw [t.cell (fun hh => by have hb' : b < w0.heap.size := hb; have hh' : w0.heap.size ≤ b := hh; omega) hb]; exact hc i hi

def BytesPost (w0 : World) (l : Bytes) (e : Ending) (w' : World) : Prop := ∃ v, e = .returned v ∧ Built w0 5 1 v (bcells l) w'

set_option maxHeartbeats 2000000 in
theorem plain_calls (w0 : World) (l : Bytes) (a : Option Addr) (cap : Nat) (hin : BCells w0 a l) (hl : l.length ≤ 1000000) :
    Calls Try.prog 21 #[.slice a l.length cap] w0 (BytesPost w0 (plainOf l)) := by
  have HI := Lib.hid hin
  clear hin
  go_enter Try.func21, Try.ntmps21
  go_wp2
  go_step3
  go_wp2
  go_step3
  go_wp2
  go_loopw [3, 4, 9] (fun ov lv iv wr => ∃ i : Nat, i ≤ l.length ∧ ∃ k so, pst (l.take i) = (k, so) ∧ lv = .int .i64 (k : Nat) ∧ iv = .int .i64 (i : Nat) ∧ Built w0 5 1 ov (bcells so) wr) (fun _ _ iv _ => l.length - (intOf iv).toNat)
  case atStart => exact ⟨0, Nat.zero_le _, 0, [], rfl, rfl, rfl, Built.nil _ _ _⟩
  case round =>
    obtain ⟨i, hi, k, so, hst, rfl, rfl, hb1⟩ := hrel
    by_cases hlt : i < l.length
    · obtain ⟨bb, off, rfl, hc⟩ := (HI.out.old hb1.old).resolve_left (fun e => by rw [e] at hlt; simp at hlt)
      have hck := hc i hlt
      have hsucc := pst_succ l i hlt
      have hle := pst_le (l.take i)
      rw [hst] at hsucc hle
      rw [List.length_take] at hle
      have hk2 : k ≤ 2 := hle.1
      have hsl : so.length ≤ 1000000 := by have := hle.2; simp only at this; omega
      have HS := Lib.hid hsucc
      generalize hb : l[i] = b at *
      have HE : Hid (∀ x, pstep x b = pstep x b) := Lib.hid (fun _ => rfl)
      have hn256 := b.toNat_lt
      generalize hn : b.toNat = n at *
      have HN := Lib.hid hn
      have hi0 : (0 : Int) ≤ (i : Int) := by omega
      have hi1 : (i : Int) < (l.length : Int) := by omega
      have hd1 := hb1.alloc (.cells #[.int .u8 (n : Int)] 5)
      obtain ⟨oa, on, oc, rfl, -⟩ := hb1.at_.form
      have HB1 := Lib.hid hd1
      have HB0 := Lib.hid hb1
      clear hb hn hc hst hsucc hle hd1 hb1
      by_cases hk : 0 < k
      · have hk0 : (0 : Int) < (k : Int) := by omega
        by_cases hd : 48 ≤ n ∧ n ≤ 57
        · have q3 : (48 : Int) ≤ n := by omega
          have q4 : (n : Int) ≤ 57 := by omega
          go_wp2
          refine ⟨⟨i + 1, by omega, k - 1, so, by rw [HS.out]; have hn := HN.out; unfold pstep; rw [if_pos (by rw [isDigit_iff]; omega)], by go_num, by go_num, HB0.out⟩, by simp [intOf]; omega⟩
        by_cases q1 : n = 20
        · subst q1
          go_wp2
          refine ⟨⟨i + 1, by omega, 2, so, by rw [HS.out]; have hn := HN.out; unfold pstep; rw [if_neg (by rw [isDigit_iff]; omega), if_pos (by omega)], by go_num, by go_num, HB0.out⟩, by simp [intOf]; omega⟩
        have q1b : ((n : Int) == 20) = false := by simp; omega
        by_cases q2 : 1 ≤ n ∧ n ≤ 4
        · have q3 : (1 : Int) ≤ n := by omega
          have q4 : (n : Int) ≤ 4 := by omega
          have q6 : ¬ (48 : Int) ≤ n := by omega
          go_wp2
          refine ⟨⟨i + 1, by omega, 0, so, by rw [HS.out]; have hn := HN.out; unfold pstep; rw [if_neg (by rw [isDigit_iff]; omega), if_neg (by omega), if_pos (by omega)], by go_num, by go_num, HB0.out⟩, by simp [intOf]; omega⟩
        by_cases q5 : n = 0
        · subst q5
          go_wp2_with (at_builtin; refine wpList_append _ rfl _ _ 22 22 rfl 5 1 1 (.int .u8 0) Try.underlying22 (.inr ⟨_, Try.underlying22⟩) elemU8 (.slice oa on oc) _ rfl HB1.out.at_ _ _ _ rfl (Src.one rfl (heap_alloc_new wr _)) (by intro u hu; simp at hu; subst hu; rfl) (by simp [bcells_length]; omega) (by simp [bcells_length]; omega) ?_
                       intro v4 w4 hv4 ht4 hw4 hn4; clear hn4; obtain ⟨pa, pn, pc, rfl, -⟩ := hv4.form)
          refine ⟨⟨i + 1, by omega, 0, so ++ [b], by rw [HS.out]; have hn := HN.out; unfold pstep; rw [if_neg (by rw [isDigit_iff]; omega), if_neg (by omega), if_neg (by omega)], by go_num, by go_num, HB1.out.grown ht4 (by rw [bcells_append, show bcells [b] = [.int .u8 0] from by simp [bcells, HN.out]]; exact hv4) hw4⟩, by simp [intOf]; omega⟩
        have q3 : (1 : Int) ≤ n := by omega
        have q4 : ¬ (n : Int) ≤ 4 := by omega
        by_cases q6 : n < 48
        · have q7 : ¬ (48 : Int) ≤ n := by omega
          go_wp2_with (at_builtin; refine wpList_append _ rfl _ _ 22 22 rfl 5 1 1 (.int .u8 0) Try.underlying22 (.inr ⟨_, Try.underlying22⟩) elemU8 (.slice oa on oc) _ rfl HB1.out.at_ _ _ _ rfl (Src.one rfl (heap_alloc_new wr _)) (by intro u hu; simp at hu; subst hu; rfl) (by simp [bcells_length]; omega) (by simp [bcells_length]; omega) ?_
                       intro v4 w4 hv4 ht4 hw4 hn4; clear hn4; obtain ⟨pa, pn, pc, rfl, -⟩ := hv4.form)
          refine ⟨⟨i + 1, by omega, 0, so ++ [b], by rw [HS.out]; have hn := HN.out; unfold pstep; rw [if_neg (by rw [isDigit_iff]; omega), if_neg (by omega), if_neg (by omega)], by go_num, by go_num, HB1.out.grown ht4 (by rw [bcells_append, show bcells [b] = [.int .u8 (n : Int)] from by simp [bcells, HN.out]]; exact hv4) hw4⟩, by simp [intOf]; omega⟩
        have q7 : (48 : Int) ≤ n := by omega
        have q8 : ¬ (n : Int) ≤ 57 := by omega
        go_wp2_with (at_builtin; refine wpList_append _ rfl _ _ 22 22 rfl 5 1 1 (.int .u8 0) Try.underlying22 (.inr ⟨_, Try.underlying22⟩) elemU8 (.slice oa on oc) _ rfl HB1.out.at_ _ _ _ rfl (Src.one rfl (heap_alloc_new wr _)) (by intro u hu; simp at hu; subst hu; rfl) (by simp [bcells_length]; omega) (by simp [bcells_length]; omega) ?_
                     intro v4 w4 hv4 ht4 hw4 hn4; clear hn4; obtain ⟨pa, pn, pc, rfl, -⟩ := hv4.form)
        refine ⟨⟨i + 1, by omega, 0, so ++ [b], by rw [HS.out]; have hn := HN.out; unfold pstep; rw [if_neg (by rw [isDigit_iff]; omega), if_neg (by omega), if_neg (by omega)], by go_num, by go_num, HB1.out.grown ht4 (by rw [bcells_append, show bcells [b] = [.int .u8 (n : Int)] from by simp [bcells, HN.out]]; exact hv4) hw4⟩, by simp [intOf]; omega⟩
      · obtain rfl : k = 0 := by omega
        by_cases q1 : n = 20
        · subst q1
          go_wp2
          refine ⟨⟨i + 1, by omega, 2, so, by rw [HS.out]; have hn := HN.out; unfold pstep; rw [if_neg (by rw [isDigit_iff]; omega), if_pos (by omega)], by go_num, by go_num, HB0.out⟩, by simp [intOf]; omega⟩
        have q1b : ((n : Int) == 20) = false := by simp; omega
        by_cases q2 : 1 ≤ n ∧ n ≤ 4
        · have q3 : (1 : Int) ≤ n := by omega
          have q4 : (n : Int) ≤ 4 := by omega
          have q6 : ¬ (48 : Int) ≤ n := by omega
          go_wp2
          refine ⟨⟨i + 1, by omega, 0, so, by rw [HS.out]; have hn := HN.out; unfold pstep; rw [if_neg (by rw [isDigit_iff]; omega), if_neg (by omega), if_pos (by omega)], by go_num, by go_num, HB0.out⟩, by simp [intOf]; omega⟩
        by_cases q5 : n = 0
        · subst q5
          go_wp2_with (at_builtin; refine wpList_append _ rfl _ _ 22 22 rfl 5 1 1 (.int .u8 0) Try.underlying22 (.inr ⟨_, Try.underlying22⟩) elemU8 (.slice oa on oc) _ rfl HB1.out.at_ _ _ _ rfl (Src.one rfl (heap_alloc_new wr _)) (by intro u hu; simp at hu; subst hu; rfl) (by simp [bcells_length]; omega) (by simp [bcells_length]; omega) ?_
                       intro v4 w4 hv4 ht4 hw4 hn4; clear hn4; obtain ⟨pa, pn, pc, rfl, -⟩ := hv4.form)
          refine ⟨⟨i + 1, by omega, 0, so ++ [b], by rw [HS.out]; have hn := HN.out; unfold pstep; rw [if_neg (by rw [isDigit_iff]; omega), if_neg (by omega), if_neg (by omega)], by go_num, by go_num, HB1.out.grown ht4 (by rw [bcells_append, show bcells [b] = [.int .u8 0] from by simp [bcells, HN.out]]; exact hv4) hw4⟩, by simp [intOf]; omega⟩
        have q3 : (1 : Int) ≤ n := by omega
        have q4 : ¬ (n : Int) ≤ 4 := by omega
        go_wp2_with (at_builtin; refine wpList_append _ rfl _ _ 22 22 rfl 5 1 1 (.int .u8 0) Try.underlying22 (.inr ⟨_, Try.underlying22⟩) elemU8 (.slice oa on oc) _ rfl HB1.out.at_ _ _ _ rfl (Src.one rfl (heap_alloc_new wr _)) (by intro u hu; simp at hu; subst hu; rfl) (by simp [bcells_length]; omega) (by simp [bcells_length]; omega) ?_
                     intro v4 w4 hv4 ht4 hw4 hn4; clear hn4; obtain ⟨pa, pn, pc, rfl, -⟩ := hv4.form)
        refine ⟨⟨i + 1, by omega, 0, so ++ [b], by rw [HS.out]; have hn := HN.out; unfold pstep; rw [if_neg (by rw [isDigit_iff]; omega), if_neg (by omega), if_neg (by omega)], by go_num, by go_num, HB1.out.grown ht4 (by rw [bcells_append, show bcells [b] = [.int .u8 (n : Int)] from by simp [bcells, HN.out]]; exact hv4) hw4⟩, by simp [intOf]; omega⟩
    · obtain rfl : i = l.length := by omega
      go_wp2
      go_ret
      rw [List.take_length] at hst
      exact ⟨_, rfl, by unfold plainOf; rw [hst]; exact hb1⟩

set_option maxHeartbeats 2000000 in
theorem rplain_calls (w0 : World) (l : Bytes) (a : Option Addr) (cap : Nat) (hin : BCells w0 a l) (hl : l.length ≤ 1000000) :
    Calls Try.prog 23 #[.slice a l.length cap] w0 (BytesPost w0 (plainOf l)) := by
  have HI := Lib.hid hin
  clear hin
  go_enter Try.func23, Try.ntmps23
  go_wp2
  go_loopw [3, 4, 5] (fun ov lv iv wr => ∃ i : Nat, i ≤ l.length ∧ ∃ d, d ≤ 2 ∧ ∃ so, pst (l.take i) = (2 - d, so) ∧ lv = .int .i64 (d : Nat) ∧ iv = .int .i64 (i : Nat) ∧ Built w0 5 1 ov (bcells so) wr) (fun _ _ iv _ => l.length - (intOf iv).toNat)
  case atStart => exact ⟨0, Nat.zero_le _, 2, Nat.le_refl _, [], rfl, rfl, rfl, Built.nil _ _ _⟩
  case round =>
    obtain ⟨i, hi, d, hd2, so, hst, rfl, rfl, hb1⟩ := hrel
    by_cases hlt : i < l.length
    · obtain ⟨bb, off, rfl, hc⟩ := (HI.out.old hb1.old).resolve_left (fun e => by rw [e] at hlt; simp at hlt)
      have hck := hc i hlt
      have hsucc := pst_succ l i hlt
      have hle := pst_le (l.take i)
      rw [hst] at hsucc hle
      rw [List.length_take] at hle
      have hsl : so.length ≤ 1000000 := by have := hle.2; simp only at this; omega
      have HS := Lib.hid hsucc
      generalize hb : l[i] = b at *
      have hn256 := b.toNat_lt
      generalize hn : b.toNat = n at *
      have HN := Lib.hid hn
      have hi0 : (0 : Int) ≤ (i : Int) := by omega
      have hi1 : (i : Int) < (l.length : Int) := by omega
      have hd1 := hb1.alloc (.cells #[.int .u8 (n : Int)] 5)
      obtain ⟨oa, on, oc, rfl, -⟩ := hb1.at_.form
      have HB1 := Lib.hid hd1
      have HB0 := Lib.hid hb1
      clear hb hn hc hst hsucc hle hd1 hb1
      by_cases q1 : n = 20
      · subst q1
        go_wp2
        refine ⟨⟨i + 1, by omega, 0, by omega, so, by rw [HS.out]; have hn := HN.out; unfold pstep; rw [if_neg (by rw [isDigit_iff]; omega), if_pos (by omega)], by go_num, by go_num, HB0.out⟩, by simp [intOf]; omega⟩
      have q1b : ((n : Int) == 20) = false := by simp; omega
      by_cases q2 : 1 ≤ n ∧ n ≤ 4
      · have q3 : ¬ (n : Int) < 1 := by omega
        have q4 : ¬ (4 : Int) < n := by omega
        have q6 : ¬ (48 : Int) ≤ n := by omega
        go_wp2
        refine ⟨⟨i + 1, by omega, 2, by omega, so, by rw [HS.out]; have hn := HN.out; unfold pstep; rw [if_neg (by rw [isDigit_iff]; omega), if_neg (by omega), if_pos (by omega)], by go_num, by go_num, HB0.out⟩, by simp [intOf]; omega⟩
      by_cases q5 : n = 0
      · subst q5
        go_wp2_with (at_builtin; refine wpList_append _ rfl _ _ 22 22 rfl 5 1 1 (.int .u8 0) Try.underlying22 (.inr ⟨_, Try.underlying22⟩) elemU8 (.slice oa on oc) _ rfl HB1.out.at_ _ _ _ rfl (Src.one rfl (heap_alloc_new wr _)) (by intro u hu; simp at hu; subst hu; rfl) (by simp [bcells_length]; omega) (by simp [bcells_length]; omega) ?_
                     intro v4 w4 hv4 ht4 hw4 hn4; clear hn4; obtain ⟨pa, pn, pc, rfl, -⟩ := hv4.form)
        refine ⟨⟨i + 1, by omega, 2, by omega, so ++ [b], by rw [HS.out]; have hn := HN.out; unfold pstep; rw [if_neg (by rw [isDigit_iff]; omega), if_neg (by omega), if_neg (by omega)], by go_num, by go_num, HB1.out.grown ht4 (by rw [bcells_append, show bcells [b] = [.int .u8 0] from by simp [bcells, HN.out]]; exact hv4) hw4⟩, by simp [intOf]; omega⟩
      have q3 : ¬ (n : Int) < 1 := by omega
      have q4 : (4 : Int) < n := by omega
      by_cases q6 : n < 48
      · have q7 : ¬ (48 : Int) ≤ n := by omega
        go_wp2_with (at_builtin; refine wpList_append _ rfl _ _ 22 22 rfl 5 1 1 (.int .u8 0) Try.underlying22 (.inr ⟨_, Try.underlying22⟩) elemU8 (.slice oa on oc) _ rfl HB1.out.at_ _ _ _ rfl (Src.one rfl (heap_alloc_new wr _)) (by intro u hu; simp at hu; subst hu; rfl) (by simp [bcells_length]; omega) (by simp [bcells_length]; omega) ?_
                     intro v4 w4 hv4 ht4 hw4 hn4; clear hn4; obtain ⟨pa, pn, pc, rfl, -⟩ := hv4.form)
        refine ⟨⟨i + 1, by omega, 2, by omega, so ++ [b], by rw [HS.out]; have hn := HN.out; unfold pstep; rw [if_neg (by rw [isDigit_iff]; omega), if_neg (by omega), if_neg (by omega)], by go_num, by go_num, HB1.out.grown ht4 (by rw [bcells_append, show bcells [b] = [.int .u8 (n : Int)] from by simp [bcells, HN.out]]; exact hv4) hw4⟩, by simp [intOf]; omega⟩
      have q7 : (48 : Int) ≤ n := by omega
      by_cases q8 : 57 < n
      · have q9 : ¬ (n : Int) ≤ 57 := by omega
        go_wp2_with (at_builtin; refine wpList_append _ rfl _ _ 22 22 rfl 5 1 1 (.int .u8 0) Try.underlying22 (.inr ⟨_, Try.underlying22⟩) elemU8 (.slice oa on oc) _ rfl HB1.out.at_ _ _ _ rfl (Src.one rfl (heap_alloc_new wr _)) (by intro u hu; simp at hu; subst hu; rfl) (by simp [bcells_length]; omega) (by simp [bcells_length]; omega) ?_
                     intro v4 w4 hv4 ht4 hw4 hn4; clear hn4; obtain ⟨pa, pn, pc, rfl, -⟩ := hv4.form)
        refine ⟨⟨i + 1, by omega, 2, by omega, so ++ [b], by rw [HS.out]; have hn := HN.out; unfold pstep; rw [if_neg (by rw [isDigit_iff]; omega), if_neg (by omega), if_neg (by omega)], by go_num, by go_num, HB1.out.grown ht4 (by rw [bcells_append, show bcells [b] = [.int .u8 (n : Int)] from by simp [bcells, HN.out]]; exact hv4) hw4⟩, by simp [intOf]; omega⟩
      have q9 : (n : Int) ≤ 57 := by omega
      by_cases q10 : d < 2
      · have q11 : (d : Int) < 2 := by omega
        go_wp2
        refine ⟨⟨i + 1, by omega, d + 1, by omega, so, by rw [HS.out]; have hn := HN.out; unfold pstep; rw [if_pos (by rw [isDigit_iff]; omega), show 2 - (d + 1) = 2 - d - 1 from by omega], by go_num, by go_num, HB0.out⟩, by simp [intOf]; omega⟩
      obtain rfl : d = 2 := by omega
      go_wp2_with (at_builtin; refine wpList_append _ rfl _ _ 22 22 rfl 5 1 1 (.int .u8 0) Try.underlying22 (.inr ⟨_, Try.underlying22⟩) elemU8 (.slice oa on oc) _ rfl HB1.out.at_ _ _ _ rfl (Src.one rfl (heap_alloc_new wr _)) (by intro u hu; simp at hu; subst hu; rfl) (by simp [bcells_length]; omega) (by simp [bcells_length]; omega) ?_
                   intro v4 w4 hv4 ht4 hw4 hn4; clear hn4; obtain ⟨pa, pn, pc, rfl, -⟩ := hv4.form)
      refine ⟨⟨i + 1, by omega, 2, by omega, so ++ [b], by rw [HS.out]; have hn := HN.out; unfold pstep; rw [if_neg (by rw [isDigit_iff]; omega), if_neg (by omega), if_neg (by omega)], by go_num, by go_num, HB1.out.grown ht4 (by rw [bcells_append, show bcells [b] = [.int .u8 (n : Int)] from by simp [bcells, HN.out]]; exact hv4) hw4⟩, by simp [intOf]; omega⟩
    · obtain rfl : i = l.length := by omega
      go_wp2
      go_ret
      rw [List.take_length] at hst
      exact ⟨_, rfl, by unfold plainOf; rw [hst]; exact hb1⟩
end Go.Con
