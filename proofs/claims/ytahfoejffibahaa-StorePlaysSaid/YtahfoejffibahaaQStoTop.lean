/-
  lowest, apart and the first example, walked.
-/
import Derived.Test.YtahfoejffibahaaQStoBlocks
import Derived.Test.YtahfoejffibahaaQStoPure2
set_option linter.unusedVariables false

namespace Go.Sto
open Go.Own Go.RowKit Go.Proofs

abbrev BL := List (Nat × Nat × Bool)

theorem blkCells_get {l : BL} {k : Nat} {b : Nat × Nat × Bool} (h : l[k]? = some b) : (blkCells l)[k * 3]? = some (.int .i64 b.1) ∧ (blkCells l)[k * 3 + 1]? = some (.int .i64 b.2.1) ∧ (blkCells l)[k * 3 + 2]? = some (.bool b.2.2) := by
  induction l generalizing k with
  | nil => simp at h
  | cons a l ih =>
    have e : blkCells (a :: l) = acells a ++ blkCells l := rfl
    cases k with
    | zero =>
      simp only [List.getElem?_cons_zero, Option.some.injEq] at h
      subst h
      rw [e]; simp [acells]
    | succ k =>
      have := ih (k := k) (by simpa using h)
      have l3 : (acells a).length = 3 := rfl
      rw [e, List.getElem?_append_right (by rw [l3]; omega), List.getElem?_append_right (by rw [l3]; omega), List.getElem?_append_right (by rw [l3]; omega), l3]
      rw [show (k + 1) * 3 - 3 = k * 3 from by omega, show (k + 1) * 3 + 1 - 3 = k * 3 + 1 from by omega, show (k + 1) * 3 + 2 - 3 = k * 3 + 2 from by omega]
      exact this

/-- A slice of blocks, whole: its form, and each block's cells. -/
theorem blocks_form {w : World} {v : Value} {l : BL} (h : SliceAt w 46 3 v (blkCells l)) :
    ∃ a cap, v = .slice a l.length cap ∧ l.length ≤ cap ∧ cap ≤ maxLen ∧ ∀ k b, l[k]? = some b → ∃ g off, a = some ⟨g, off, none⟩ ∧ w.cell? ⟨g, off + k * 3, none⟩ = some (.int .i64 b.1) ∧ w.cell? ⟨g, off + k * 3 + 1, none⟩ = some (.int .i64 b.2.1) ∧ w.cell? ⟨g, off + k * 3 + 2, none⟩ = some (.bool b.2.2) := by
  obtain ⟨a, n, cap, rfl, hl, hn, hc, -⟩ := h.form
  have : n = l.length := by rw [blkCells_length] at hl; omega
  subst this
  refine ⟨a, cap, rfl, hn, hc, fun k b hb => ?_⟩
  have hk : k < l.length := (List.getElem?_eq_some_iff.1 hb).1
  obtain ⟨g, off, rfl⟩ := h.addr (by omega)
  obtain ⟨h1, h2, h3⟩ := blkCells_get hb
  exact ⟨g, off, rfl, h.cells _ _ h1, by rw [Nat.add_assoc]; exact h.cells _ _ h2, by rw [Nat.add_assoc]; exact h.cells _ _ h3⟩

def lowestB (k : Int) : BL → Int
  | [] => 0
  | b :: r => if b.2.2 = true ∧ k + 1 ≤ b.2.1 then (b.1 : Int) + 1 else lowestB k r

theorem lowestB_skip {k : Int} {l : BL} {i : Nat} (h : ∀ j b, j < i → l[j]? = some b → ¬ (b.2.2 = true ∧ k + 1 ≤ b.2.1)) : lowestB k l = lowestB k (l.drop i) := by
  induction i generalizing l with
  | zero => rfl
  | succ i ih =>
    cases l with
    | nil => rfl
    | cons b l =>
      have h0 := h 0 b (by omega) rfl
      have := ih (l := l) fun j c hj hc => h (j + 1) c (by omega) (by simpa using hc)
      simp only [lowestB, List.drop_succ_cons]
      rw [if_neg h0, this]

set_option maxHeartbeats 1000000 in
theorem lowest_calls {w : World} {v : Value} {l : BL} (h : SliceAt w 46 3 v (blkCells l)) (hl : l.length ≤ 16000) (hb : ∀ b ∈ l, b.1 ≤ 32000 ∧ b.2.1 ≤ 32000) (k : Int) (h0 : 0 ≤ k) (h1 : k ≤ 32000) :
    Calls Try.prog 36 #[v, .int .i64 k] w fun e w' => e = .returned (.int .i64 (lowestB k l)) ∧ w' = w := by
  obtain ⟨a, cap, rfl, hn, hc, hcell⟩ := blocks_form h
  have HC := Lib.hid hcell
  have hk1 : IntKind.i64.wrap (k + 1) = k + 1 := IntWalk.i64_in _ (by omega)
  clear hcell h
  go_enter Try.func36, Try.ntmps36
  go_wp2
  go_loopw [5] (fun i wr => ∃ j : Nat, j ≤ l.length ∧ i = .int .i64 j ∧ wr = w ∧ ∀ j' b, j' < j → l[j']? = some b → ¬ (b.2.2 = true ∧ k + 1 ≤ b.2.1)) (fun i _ => l.length - (intOf i).toNat)
  case atStart => exact ⟨0, by omega, rfl, rfl, fun j' b hj => by omega⟩
  case round =>
    obtain ⟨j, hj, rfl, rfl, hsk⟩ := hrel
    have HS := Lib.hid hsk
    clear hsk
    by_cases hlt : j < l.length
    · obtain ⟨b, hbj⟩ : ∃ b, l[j]? = some b := ⟨_, List.getElem?_eq_getElem hlt⟩
      obtain ⟨g, off, rfl, c0, c1, c2⟩ := HC.out j b hbj
      obtain ⟨b0, b1, b2⟩ := b
      simp only at c0 c1 c2
      have hbb := hb _ (List.mem_of_getElem? hbj)
      simp only at hbb
      have hw3 : IntKind.i64.wrap ((b0 : Int) + 1) = (b0 : Int) + 1 := IntWalk.i64_in _ (by omega)
      have hw4 : wrap64 ((b0 : Int) + 1) = (b0 : Int) + 1 := by unfold wrap64; omega
      have HB := Lib.hid hbj
      clear hbj
      have next : ¬ (b2 = true ∧ k + 1 ≤ b1) → ∀ j' b, j' < j + 1 → l[j']? = some b → ¬ (b.2.2 = true ∧ k + 1 ≤ b.2.1) := fun hh j' b hj' hb' => by
        rcases Nat.lt_or_eq_of_le (Nat.le_of_lt_succ hj') with h' | h'
        · exact HS.out j' b h' hb'
        · subst h'; rw [HB.out] at hb'; cases hb'; exact hh
      have HN := Lib.hid next
      clear next
      rcases b2 with _ | _
      · go_wp2
        go_roundw
        case rel => exact ⟨j + 1, by omega, by go_num, trivial, HN.out (by simp)⟩
        case measure => simp [intOf]; omega
      · by_cases hf : k + 1 ≤ b1
        · have hd : decide (k + 1 ≤ (b1 : Int)) = true := by simp; omega
          go_wp2
          go_ret
          refine ⟨?_, by first | rfl | trivial⟩
          rw [lowestB_skip HS.out, List.drop_eq_getElem_cons hlt]
          have e1 : l[j] = (b0, b1, true) := by have := HB.out; rw [List.getElem?_eq_getElem hlt] at this; exact Option.some.inj this
          rw [e1]
          simp only [lowestB]
          rw [if_pos ⟨trivial, hf⟩]
          rfl
        · have hd : decide (k + 1 ≤ (b1 : Int)) = false := by simp; omega
          go_wp2
          go_roundw
          case rel => exact ⟨j + 1, by omega, by go_num, trivial, HN.out (fun hh => hf hh.2)⟩
          case measure => simp [intOf]; omega
    · obtain rfl : j = l.length := by omega
      go_wp2
      go_ret
      refine ⟨?_, by first | rfl | trivial⟩
      rw [lowestB_skip HS.out, List.drop_length]
      rfl

/-! ### apart -/

theorem blocks_get : ∀ {S : St} {a k : Nat} {b : Blk}, S[k]? = some b → (blocks a S)[k]? = some (a + sz (S.take k), b.size, !b.used)
  | [], _, _, _, h => by simp at h
  | c :: S, a, 0, b, h => by
    simp only [List.getElem?_cons_zero, Option.some.injEq] at h
    subst h; simp [blocks, sz]
  | c :: S, a, k + 1, b, h => by
    have := blocks_get (S := S) (a := a + c.size) (k := k) (b := b) (by simpa using h)
    simp only [blocks, List.getElem?_cons_succ, List.take_succ_cons, sz]
    rw [this, Nat.add_assoc]

theorem blocks_length : ∀ (S : St) (a : Nat), (blocks a S).length = S.length
  | [], _ => rfl
  | c :: S, a => by simp [blocks, blocks_length S]

theorem Norm.at_ {S : St} (h : Norm S) : ∀ {k : Nat} {a b : Blk}, S[k]? = some a → S[k + 1]? = some b → ¬ (a.used = false ∧ b.used = false) := by
  induction S with
  | nil => intro k a b h1; simp at h1
  | cons c S ih =>
    intro k a b h1 h2
    cases k with
    | zero =>
      cases S with
      | nil => simp at h2
      | cons d S => simp at h1 h2; subst h1; subst h2; exact h.1
    | succ k => exact ih h.tail (by simpa using h1) (by simpa using h2)

theorem blocks_bound {n : Nat} {S : St} (h : Ok n S) : ∀ b ∈ blocks 0 S, b.1 ≤ 32000 ∧ b.2.1 ≤ 32000 := by
  have : ∀ (S : St) (a : Nat), ∀ b ∈ blocks a S, b.1 ≤ a + sz S ∧ b.2.1 ≤ a + sz S := by
    intro S
    induction S with
    | nil => intro a b hb; cases hb
    | cons c S ih =>
      intro a b hb
      rcases List.mem_cons.1 hb with rfl | hb
      · simp [sz]; omega
      · have := ih _ b hb
        simp [sz]; omega
  intro b hb
  have h1 := this S 0 b hb
  rw [h.sum] at h1
  have := h.hi
  omega

theorem Ok.len {n : Nat} {S : St} (h : Ok n S) : S.length ≤ 16000 := by
  have h1 := two_le h.good
  have := h.le
  omega

set_option maxHeartbeats 2000000 in
theorem apart_calls {w : World} {v : Value} {n : Nat} {S : St} (ok : Ok n S) (h : SliceAt w 46 3 v (blkCells (blocks 0 S))) :
    Calls Try.prog 37 #[v, .int .i64 n] w fun e w' => e = .returned (.bool true) ∧ w' = w := by
  obtain ⟨a, cap, rfl, hn, hc, hcell⟩ := blocks_form h
  rw [blocks_length] at hn
  rw [blocks_length]
  have hlen := ok.len
  have HC := Lib.hid hcell
  have HO := Lib.hid ok
  clear hcell h ok
  go_enter Try.func37, Try.ntmps37
  go_wp2
  go_loopw [5, 6] (fun t i wr => ∃ j : Nat, j ≤ S.length ∧ i = .int .i64 j ∧ t = .int .i64 (sz (S.take j)) ∧ wr = w) (fun _ i _ => S.length - (intOf i).toNat)
  case atStart => exact ⟨0, by omega, rfl, rfl, rfl⟩
  case round =>
    obtain ⟨j, hj, rfl, rfl, rfl⟩ := hrel
    by_cases hlt : j < S.length
    · obtain ⟨b, hbj⟩ : ∃ b, S[j]? = some b := ⟨_, List.getElem?_eq_getElem hlt⟩
      obtain ⟨g, off, rfl, c0, c1, c2⟩ := HC.out j _ (blocks_get hbj)
      simp only [Nat.zero_add] at c0 c1 c2
      have hgd := HO.out.good b (List.mem_of_getElem? hbj)
      have hb2 := hgd.two
      have hsum : sz (S.take (j + 1)) = sz (S.take j) + b.size := by
        rw [List.take_add_one, hbj, sz_append]; simp [sz]
      have hle : sz (S.take (j + 1)) ≤ 32000 := by
        have h1 := HO.out.le
        have : sz S = sz (S.take (j + 1)) + sz (S.drop (j + 1)) := by rw [← sz_append, List.take_append_drop]
        omega
      have hd : decide (((b.size : Nat) : Int) < 2) = false := by simp; omega
      have hd2 : decide (b.size < 2) = false := by simp; omega
      have hw : IntKind.i64.wrap (((sz (S.take j) : Nat) : Int) + b.size) = (sz (S.take j) : Int) + b.size := IntWalk.i64_in _ (by omega)
      have hw' : wrap64 (((sz (S.take j) : Nat) : Int) + b.size) = (sz (S.take j) : Int) + b.size := by unfold wrap64; omega
      obtain ⟨sj, hsj⟩ : ∃ m, sz (S.take j) = m := ⟨_, rfl⟩
      rw [hsj] at hsum c0 hw hw' ⊢
      have HS := Lib.hid (And.intro hsum hbj)
      clear hsum hsj
      have rel : ∀ z : Int, z = (sj : Int) + b.size → z = ((sz (S.take (j + 1)) : Nat) : Int) := fun z hz => by rw [HS.out.1, hz]; omega
      have HR := Lib.hid rel
      clear rel hle
      cases j with
      | zero =>
        clear hbj
        simp only [Nat.zero_mul, Nat.add_zero] at c0 c1 c2
        go_wp2
        go_roundw
        case rel => exact ⟨1, by omega, by go_num, by rw [HS.out.1]; go_num, trivial⟩
        case measure => simp [intOf]; omega
      | succ i =>
        obtain ⟨b', hbi⟩ : ∃ b, S[i]? = some b := ⟨_, List.getElem?_eq_getElem (by omega)⟩
        obtain ⟨g', off', e', -, -, d2⟩ := HC.out i _ (blocks_get hbi)
        cases e'
        simp only at d2
        have hnn := HO.out.norm.at_ hbi hbj
        have hp : decide (0 < ((i + 1 : Nat) : Int)) = true := decide_eq_true (by omega)
        have hs1 : IntKind.i64.wrap (((i + 1 : Nat) : Int) - 1) = (i : Int) := (IntWalk.i64_in _ (by omega)).trans (by omega)
        have hs2 : wrap64 (((i + 1 : Nat) : Int) - 1) = (i : Int) := by unfold wrap64; omega
        clear hbj hbi
        rcases hu : b.used with _ | _
        · rcases hu' : b'.used with _ | _
          · exact absurd ⟨hu', hu⟩ hnn
          · rw [hu] at c2
            rw [hu'] at d2
            simp only [Bool.not_false, Bool.not_true] at c2 d2
            clear hnn hu hu'
            go_wp2
            go_roundw
            case rel => exact ⟨i + 2, by omega, by go_num, by rw [HS.out.1]; go_num, trivial⟩
            case measure => simp [intOf]; omega
        · rw [hu] at c2
          simp only [Bool.not_true] at c2
          clear hnn hu
          go_wp2
          go_roundw
          case rel => exact ⟨i + 2, by omega, by go_num, by rw [HS.out.1]; go_num, trivial⟩
          case measure => simp [intOf]; omega
    · obtain rfl : j = S.length := by omega
      have hall : sz (S.take S.length) = n := by rw [List.take_length]; exact HO.out.sum
      go_wp2
      go_ret
      refine ⟨?_, by first | rfl | trivial⟩
      simp [HO.out.sum]
end Go.Sto

/-
  The first example of TopStores, walked; and what Get gives is the lowest block.
-/
namespace Go.Sto
open Go.Own Go.RowKit Go.Proofs

/-- Whatever was there stands. -/
abbrev Old (w w' : World) : Prop := Turn (fun k => w.heap.size ≤ k) w w'

theorem Step.old {g g' : Ghost} {w w1 w2 : World} (hb : Below w.heap.size w w1) (htag : ∀ k, k < w.heap.size → g.ρ k = (0, 0)) (h : Step g g' w1 w2) : Old w w2 := by
  have hs := hb.size
  refine ⟨h.turn.os.trans hb.os, h.turn.tape.trans hb.tape, h.turn.output.trans hb.output, Nat.le_trans hs h.turn.size, fun k hk hn => ?_⟩
  rw [h.turn.block k (by omega) (by rw [htag k hk]; simp)]
  exact hb.block k hk

theorem awake18_gets : (get (newS 16) 3).2 = (1, 0) ∧ (get (get (newS 16) 3).1 4).2 = (5, 0) := ⟨by decide, by decide⟩

theorem awake18_calls (w : World) : Calls Try.prog 35 #[] w fun e w' => e = .returned (.bool true) ∧ Old w w' := by
  have ha := Lib.hid awake18_gets
  go_enter Try.func35, Try.ntmps35
  go_wp2_with (first
    | (go_at_call 17; refine (new_good 16 (by decide) (by decide) (by decide) w).mono ?_
       rintro e1 w1 ⟨g, rfl, hgn, r1, hB1, htag, hk1⟩
       have G1 := Lib.hid r1
       clear r1)
    | (go_at_call 18; refine (get_full G1.out rfl 3).mono ?_
       clear G1
       rintro e2 w2 ⟨rfl, g2, r2, s2⟩
       have hs2 := s2.s
       have G2 := Lib.hid r2
       clear r2
       rw [ha.out.1])
    | (go_at_call 18; refine (get_full G2.out hs2 4).mono ?_
       clear G2
       rintro e3 w3 ⟨rfl, g3, r3, s3⟩
       rw [ha.out.2]))
  go_ret
  exact ⟨rfl, Step.old hB1 htag (s2.trans s3)⟩

/-! ### The lowest block -/

theorem lowest_free {S : St} {_n : Nat} (hg : ∀ b ∈ S, Good b) {k : Int} (h1 : 1 ≤ k) (h2 : k ≤ 32000) : ∀ a, lowestB k (blocks a S) = match hit (fits (need k)) a S with | none => 0 | some i => ((a + sz (S.take i) : Nat) : Int) + 1 := by
  induction S with
  | nil => intro a; rfl
  | cons b S ih =>
    intro a
    have hb := hg b (by simp)
    have hc : (((!b.used) = true ∧ k + 1 ≤ (b.size : Int)) ↔ fits (need k) a b = true) := by
      have e1 := hb.even
      have e2 := hb.two
      have e3 : need k = max 2 ((k.toNat + 2) / 2 * 2) := rfl
      simp only [fits, Bool.and_eq_true, decide_eq_true_eq]
      constructor
      · rintro ⟨p, q⟩; exact ⟨p, by omega⟩
      · rintro ⟨p, q⟩; exact ⟨p, by omega⟩
    simp only [blocks, lowestB, hit]
    by_cases hf : fits (need k) a b = true
    · rw [if_pos (hc.2 hf), if_pos hf]; simp [sz]
    · rw [if_neg (fun hh => hf (hc.1 hh)), if_neg hf, ih (fun c hc => hg c (by simp [hc]))]
      cases hit (fits (need k)) (a + b.size) S with
      | none => rfl
      | some i => simp [sz]; omega

theorem get_lowest {S : St} {n : Nat} (h : Ok n S) {k : Int} (h1 : 1 ≤ k) (h2 : k ≤ 32000) : (get S k).2.1 = lowestB k (blocks 0 S) := by
  rw [lowest_free (_n := n) h.good h1 h2, get_model (by omega) h2]
  cases hit (fits (need k)) 0 S with
  | none => rfl
  | some i => simp

theorem get_err {S : St} {n : Nat} (h : Ok n S) (k : Int) : ((get S k).2.2 = 0 ↔ 0 < (get S k).2.1) := by
  rcases get_U h k with ⟨e, he, h0⟩ | ⟨S', a, X, Y, he, -, -, -, ha, -⟩
  · rw [he]; simp [h0]
  · rw [he]; simp [ha]
end Go.Sto
