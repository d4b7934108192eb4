/-
  The reference's store as it lies in memory: a slice of blocks of two cells, a slice of words and a mark. New, At.
-/
import Derived.Deep.LoopGhost
import Derived.Deep.CutRange
import Derived.Test.YtahfoejffibahaaQStoNum
import Derived.Test.YtahfoejffibahaaQStoGet
import Derived.Test.YtahfoejffibahaaQStoTop
import Derived.Test.YtahfoejffibahaaQOwnRegionL
set_option linter.unusedVariables false

namespace Go.Sto
open Go.Own Go.RowKit Go.Proofs

/-- A block of the reference's: its words' slice, and whether it is in use. -/
structure RN where
  a : Option Addr
  n : Nat
  cap : Nat
  u : Bool

def rcell (x : RN) : List Value := [.slice x.a x.n x.cap, .bool x.u]
def rcells (L : List RN) : List Value := L.flatMap rcell
theorem rcells_append (A B : List RN) : rcells (A ++ B) = rcells A ++ rcells B := List.flatMap_append
theorem rcells_length (L : List RN) : (rcells L).length = L.length * 2 := by
  induction L with
  | nil => rfl
  | cons a L ih => simp only [rcells, List.flatMap_cons, List.length_append] at ih ⊢; rw [ih]; simp [rcell]; omega
theorem rcells_get : ∀ {L : List RN} {k : Nat} {x : RN}, L[k]? = some x → (rcells L)[k * 2]? = some (.slice x.a x.n x.cap) ∧ (rcells L)[k * 2 + 1]? = some (.bool x.u)
  | [], _, _, h => by simp at h
  | y :: L, 0, x, h => by
    simp only [List.getElem?_cons_zero, Option.some.injEq] at h
    subst h
    exact ⟨rfl, rfl⟩
  | y :: L, k + 1, x, h => by
    have ih := rcells_get (L := L) (k := k) (x := x) (by simpa using h)
    have e : rcells (y :: L) = rcell y ++ rcells L := rfl
    have e1 : (k + 1) * 2 = k * 2 + 2 := by omega
    have e2 : (k + 1) * 2 + 1 = k * 2 + 1 + 2 := by omega
    rw [e, e1, show k * 2 + 2 + 1 = k * 2 + 1 + 2 by omega]
    exact ⟨by rw [List.getElem?_append_right (by simp [rcell])]; simpa [rcell] using ih.1, by rw [List.getElem?_append_right (by simp [rcell])]; simpa [rcell] using ih.2⟩

def rsz : List RN → Nat
  | [] => 0
  | x :: L => x.n + rsz L
theorem rsz_append (A B : List RN) : rsz (A ++ B) = rsz A + rsz B := by
  induction A with
  | nil => simp [rsz]
  | cons a A ih => simp [rsz, ih]; omega
theorem rsz_take {L : List RN} {i : Nat} {x : RN} (h : L[i]? = some x) : rsz (L.take (i + 1)) = rsz (L.take i) + x.n := by
  rw [List.take_add_one, h, rsz_append]; simp [rsz]
theorem rsz_take_le (L : List RN) (i : Nat) : rsz (L.take i) ≤ rsz L := by
  have : rsz L = rsz (L.take i) + rsz (L.drop i) := by rw [← rsz_append, List.take_append_drop]
  omega

def RefAt (w : World) (v : Value) (L : List RN) : Prop := SliceAt w 108 2 v (rcells L)

theorem RefAt.form {w : World} {v : Value} {L : List RN} (h : RefAt w v L) :
    ∃ a cap, v = .slice a L.length cap ∧ L.length ≤ cap ∧ cap ≤ maxLen ∧ ∀ k x, L[k]? = some x → ∃ b off, a = some ⟨b, off, none⟩ ∧ w.cell? ⟨b, off + k * 2, none⟩ = some (.slice x.a x.n x.cap) ∧ w.cell? ⟨b, off + k * 2 + 1, none⟩ = some (.bool x.u) := by
  obtain ⟨a, n, cap, rfl, hl, hn, hc, -⟩ := SliceAt.form h
  have : n = L.length := by rw [rcells_length] at hl; omega
  subst this
  refine ⟨a, cap, rfl, hn, hc, fun k x hx => ?_⟩
  have hk : k < L.length := (List.getElem?_eq_some_iff.1 hx).1
  obtain ⟨b, off, rfl⟩ := SliceAt.addr h (by omega)
  obtain ⟨h1, h2⟩ := rcells_get hx
  exact ⟨b, off, rfl, SliceAt.cells h _ _ h1, by rw [Nat.add_assoc]; exact SliceAt.cells h _ _ h2⟩

theorem RefAt.below {w w' : World} {v : Value} {L : List RN} (h : RefAt w v L) (hB : Below w.heap.size w w') : RefAt w' v L := SliceAt.keep h fun k hk => hB.block k (h.lt k hk)

theorem res_ct {fn : Func} {p u : Tmp} (h : fn.results = #[.cell p 59, .tmp u]) (tmps : Array Value) (w : World) {g : Nat} {v : Value} (hp : tmps.getD p undef = .pointer (some ⟨g, 0, none⟩)) (hc : w.cell? ⟨g, 0, none⟩ = some v) :
    (results fn tmps).run Try.prog w = .ok (.tuple #[.agg #[v], tmps.getD u undef]) w := by
  rw [results_cell_tmp h, hp]
  go_simp

set_option maxRecDepth 100000 in
set_option maxHeartbeats 1000000 in
theorem rnew_bad (n : Int) (hn : ¬ (4 ≤ n ∧ n ≤ 32000 ∧ n % 2 = 0)) (w : World) :
    Calls Try.prog 32 #[.int .i64 n] w fun e w' => e = .returned (.tuple #[.agg #[.slice none 0 0], .int .i64 1]) ∧ Below w.heap.size w w' := by
  have fin : Below w.heap.size w (w.alloc (.cells #[.slice none 0 0] 59)) := (Below.refl _ w).alloc (Nat.le_refl _) _
  by_cases h1 : n < 4
  · have f1 : decide (n < 4) = true := decide_eq_true h1
    clear hn h1
    go_enter Try.func32, Try.ntmps32
    go_wp2
    refine bodyPost_ret (res_ct (v := .slice none 0 0) rfl _ _ rfl (cell_at (heap_alloc_new w _) rfl)) rfl ?_
    exact ⟨rfl, fin⟩
  · have f1 : decide (n < 4) = false := decide_eq_false h1
    by_cases h2 : 32000 < n
    · have f2 : decide (32000 < n) = true := decide_eq_true h2
      clear hn h1 h2
      go_enter Try.func32, Try.ntmps32
      go_wp2
      refine bodyPost_ret (res_ct (v := .slice none 0 0) rfl _ _ rfl (cell_at (heap_alloc_new w _) rfl)) rfl ?_
      exact ⟨rfl, fin⟩
    · have f2 : decide (32000 < n) = false := decide_eq_false h2
      have h3 : n % 2 = 1 := by omega
      have f3 : (n % 2 == 1) = true := by simp [h3]
      have f0 : 0 ≤ n := by omega
      clear hn h1 h2 h3
      go_enter Try.func32, Try.ntmps32
      go_wp2
      refine bodyPost_ret (res_ct (v := .slice none 0 0) rfl _ _ rfl (cell_at (heap_alloc_new w _) rfl)) rfl ?_
      exact ⟨rfl, fin⟩

set_option maxRecDepth 100000 in
set_option maxHeartbeats 1000000 in
theorem rnew_good (n : Nat) (h0 : 4 ≤ n) (h1 : n ≤ 32000) (h2 : n % 2 = 0) (w : World) :
    Calls Try.prog 32 #[.int .i64 n] w fun e w' => e = .returned (.tuple #[.agg #[.slice (some ⟨w.heap.size + 2, 0, none⟩) 1 1], .int .i64 0]) ∧
      w' = ((w.alloc (.cells #[.slice (some ⟨w.heap.size + 2, 0, none⟩) 1 1] 59)).alloc (.cells (icells (zeros n)).toArray 3)).alloc (.cells #[.slice (some ⟨w.heap.size + 1, 0, none⟩) n n, .bool false] 108) := by
  have f1 : decide ((n : Int) < 4) = false := decide_eq_false (by omega)
  have f1' : decide (n < 4) = false := decide_eq_false (by omega)
  have f2 : decide ((32000 : Int) < (n : Int)) = false := decide_eq_false (by omega)
  have f2' : decide (32000 < n) = false := decide_eq_false (by omega)
  have h3 : (n : Int) % 2 = 0 := by omega
  have f3 : ((n : Int) % 2 == 1) = false := by simp [h3]
  clear h2 h3
  go_enter Try.func32, Try.ntmps32
  go_wp2
  rw [make_ints (n : Int) n rfl (by omega)]
  go_wp2
  refine bodyPost_ret (res_ct (v := .slice (some ⟨w.heap.size + 2, 0, none⟩) 1 1) rfl _ _ rfl ?_) rfl ⟨rfl, rfl⟩
  refine cell_at (cur := #[.slice (some ⟨w.heap.size + 2, 0, none⟩) 1 1]) ((heap_alloc_lt _ _ _ (by simp; omega)).trans ((heap_alloc_lt _ _ _ (by simp)).trans (heap_alloc_new w _))) rfl

set_option maxRecDepth 100000 in
set_option maxHeartbeats 1000000 in
theorem rat_calls {w : World} {a : Option Addr} {cap : Nat} {L : List RN} (h : RefAt w (.slice a L.length cap) L) (hs : rsz L ≤ 32000) (hl : L.length ≤ 32000) (i : Nat) (hi : i ≤ L.length) :
    Calls Try.prog 56 #[.agg #[.slice a L.length cap], .int .i64 i] w fun e w' => e = .returned (.int .i64 (1 + (rsz (L.take i) : Nat))) ∧ w' = w.alloc (.cells #[.slice a L.length cap] 59) := by
  obtain ⟨a', cap', e', hn, hc, hcell⟩ := h.form
  cases e'
  have H := Lib.hid (And.intro h hcell)
  clear h hcell
  go_enter Try.func56, Try.ntmps56
  go_wp2
  obtain ⟨w1, hw1⟩ : ∃ w1, w.alloc (.cells #[.slice a L.length cap] 59) = w1 := ⟨_, rfl⟩
  have d0 : w1.cell? ⟨w.heap.size, 0, none⟩ = some (.slice a L.length cap) := by rw [← hw1]; exact cell_at (heap_alloc_new w _) rfl
  have hB1 : Below w.heap.size w w1 := by rw [← hw1]; exact (Below.refl _ w).alloc (Nat.le_refl _) _
  rw [hw1]
  have HW := Lib.hid hw1
  clear hw1
  go_loopg [5, 6] (i) (fun k v x wx => k ≤ i ∧ x = .int .i64 ((i - k : Nat) : Int) ∧ v = .int .i64 (1 + (rsz (L.take (i - k)) : Nat)) ∧ wx = w1)
  case atStart => exact ⟨Nat.le_refl _, by simp, by simp [rsz], rfl⟩
  case round =>
    obtain ⟨hk, rfl, rfl, rfl⟩ := hrel
    obtain ⟨j, hj⟩ : ∃ j, i - gk = j := ⟨_, rfl⟩
    rw [hj]
    have HJ := Lib.hid hj
    clear hj
    by_cases hlt : j < i
    · obtain ⟨x, hx⟩ : ∃ x, L[j]? = some x := ⟨_, List.getElem?_eq_getElem (by omega)⟩
      have hjl : j < L.length := by omega
      obtain ⟨b, off, rfl, c0, -⟩ := H.out.2 j x hx
      have e0 := (hB1.cell (p := ⟨b, off + j * 2, none⟩) (cell_lt c0)).trans c0
      have ht := rsz_take hx
      have h1 := rsz_take_le L (j + 1)
      have hxn : x.n ≤ 32000 := by omega
      have hjn : rsz (L.take j) ≤ 32000 := by omega
      have HT := Lib.hid ht
      obtain ⟨z, hz⟩ : ∃ z, rsz (L.take j) = z := ⟨_, rfl⟩
      rw [hz] at HT hjn ⊢
      have hw : IntKind.i64.wrap (1 + (z : Int) + (x.n : Int)) = 1 + (z : Int) + (x.n : Int) := IntWalk.i64_in _ (by omega)
      have hw2 : wrap64 (1 + (z : Int) + (x.n : Int)) = 1 + (z : Int) + (x.n : Int) := by unfold wrap64; omega
      clear ht h1 hx c0 hz
      go_wp2
      go_roundg (gk - 1)
      case measure => have := HJ.out; omega
      case rel =>
        have hjj := HJ.out
        have e1 : i - (gk - 1) = j + 1 := by omega
        rw [e1, HT.out]
        exact ⟨by omega, by go_num, by simp; omega, rfl⟩
    · obtain rfl : j = i := by have := HJ.out; omega
      go_wp2
      go_ret
      exact ⟨rfl, HW.out.symm⟩
end Go.Sto

/-
  The reference's Blocks, walked.
-/
namespace Go.Sto
open Go.Own Go.RowKit Go.Proofs

def rblocks : Nat → List RN → BL
  | _, [] => []
  | k, x :: L => (k, x.n, !x.u) :: rblocks (k + x.n) L
theorem rblocks_length : ∀ (k : Nat) (L : List RN), (rblocks k L).length = L.length
  | _, [] => rfl
  | _, _ :: L => by simp [rblocks, rblocks_length]
theorem rblocks_get : ∀ {L : List RN} {k i : Nat} {x : RN}, L[i]? = some x → (rblocks k L)[i]? = some (k + rsz (L.take i), x.n, !x.u)
  | [], _, _, _, h => by simp at h
  | y :: L, k, 0, x, h => by
    simp only [List.getElem?_cons_zero, Option.some.injEq] at h
    subst h; simp [rblocks, rsz]
  | y :: L, k, i + 1, x, h => by
    have := rblocks_get (L := L) (k := k + y.n) (i := i) (x := x) (by simpa using h)
    simp only [rblocks, List.getElem?_cons_succ, List.take_succ_cons, rsz]
    rw [this, Nat.add_assoc]

set_option maxRecDepth 100000 in
set_option maxHeartbeats 4000000 in
theorem rblocks_calls {w : World} {v : Value} {L : List RN} (h : RefAt w v L) (hs : rsz L ≤ 32000) (hl : L.length ≤ 16000) :
    Calls Try.prog 30 #[.agg #[v]] w fun e w' => ∃ v', e = .returned v' ∧ SliceAt w' 46 3 v' (blkCells (rblocks 0 L)) ∧ Below w.heap.size w w' := by
  obtain ⟨a, cap, rfl, hn, hc, hcell⟩ := h.form
  have H := Lib.hid (And.intro h hcell)
  clear h hcell
  go_enter Try.func30, Try.ntmps30
  go_wp2
  obtain ⟨w1, hw1⟩ : ∃ w1, w.alloc (.cells #[.slice a L.length cap] 59) = w1 := ⟨_, rfl⟩
  have d0 : w1.cell? ⟨w.heap.size, 0, none⟩ = some (.slice a L.length cap) := by rw [← hw1]; exact cell_at (heap_alloc_new w _) rfl
  have hB1 : Below w.heap.size w w1 := by rw [← hw1]; exact (Below.refl _ w).alloc (Nat.le_refl _) _
  have hz1 : w1.heap.size = w.heap.size + 1 := by rw [← hw1]; simp
  rw [hw1]
  clear hw1
  obtain ⟨n0, hn0⟩ : ∃ n0, w.heap.size = n0 := ⟨_, rfl⟩
  rw [hn0] at d0 hB1 hz1 ⊢
  have HN := Lib.hid (And.intro hn0 (And.intro hB1 (And.intro d0 hz1)))
  clear hn0 hB1 d0 hz1
  go_loopg [3, 4] (L.length) (fun k v x wx => k ≤ L.length ∧ x = .int .i64 ((L.length - k : Nat) : Int) ∧ SliceAt wx 46 3 v (blkCells ((rblocks 0 L).take (L.length - k))) ∧ Below (n0 + 1) w1 wx ∧ ∀ b, v.ownBlock = some b → n0 + 1 ≤ b)
  case atStart => exact ⟨Nat.le_refl _, by simp, by simp [blkCells]; exact SliceAt.nil _ _ _, Below.refl _ _, fun b hb => by simp [Value.ownBlock] at hb⟩
  case round =>
    obtain ⟨hk, rfl, hS, hB, hO⟩ := hrel
    obtain ⟨j, hj⟩ : ∃ j, L.length - gk = j := ⟨_, rfl⟩
    rw [hj] at hS ⊢
    have HJ := Lib.hid hj
    have d0 : wr.cell? ⟨n0, 0, none⟩ = some (.slice a L.length cap) := (hB.cell (p := ⟨n0, 0, none⟩) (by show n0 < n0 + 1; omega)).trans HN.out.2.2.1
    obtain ⟨va, vn, vc, rfl, -⟩ := SliceAt.form hS
    have HS := Lib.hid (And.intro hS (And.intro hB hO))
    clear hj hS hB hO
    by_cases hlt : j < L.length
    · obtain ⟨x, hx⟩ : ∃ x, L[j]? = some x := ⟨_, List.getElem?_eq_getElem hlt⟩
      obtain ⟨b, off, rfl, c0, c1⟩ := H.out.2 j x hx
      go_upto_region 5 with fail
      obtain ⟨z, hz⟩ : ∃ z, rsz (L.take j) = z := ⟨_, rfl⟩
      have hzs : z ≤ 32000 := by rw [← hz]; exact Nat.le_trans (rsz_take_le L j) hs
      have hget := rblocks_get (k := 0) hx
      rw [hz, Nat.zero_add] at hget
      have hat := rat_calls (w := wr.drew) (((H.out.1.below (HN.out.1 ▸ HN.out.2.1)).below (by have := HS.out.2.1; rwa [← HN.out.2.2.2] at this)).below (Below.refl _ wr).drew) hs (by omega) j (by omega)
      rw [hz] at hat
      obtain ⟨A, hA⟩ : ∃ A : Int, 1 + (z : Int) = A := ⟨_, rfl⟩
      rw [hA] at hat
      have hw : IntKind.i64.wrap (A - 1) = (z : Int) := (IntWalk.i64_in _ (by omega)).trans (by omega)
      have hw2 : wrap64 (A - 1) = (z : Int) := by unfold wrap64; omega
      have hws : n0 + 1 ≤ wr.heap.size := by have := HS.out.2.1.size; have := HN.out.2.2.2; omega
      have hbn : b < n0 := by have h : b < w.heap.size := cell_lt c0; have := HN.out.1; omega
      have e0 : wr.cell? ⟨b, off + j * 2, none⟩ = some (.slice x.a x.n x.cap) := (HS.out.2.1.cell (p := ⟨b, off + j * 2, none⟩) (by show b < n0 + 1; omega)).trans ((HN.out.2.1.cell (p := ⟨b, off + j * 2, none⟩) hbn).trans c0)
      have e1 : wr.cell? ⟨b, off + j * 2 + 1, none⟩ = some (.bool x.u) := (HS.out.2.1.cell (p := ⟨b, off + j * 2 + 1, none⟩) (by show b < n0 + 1; omega)).trans ((HN.out.2.1.cell (p := ⟨b, off + j * 2 + 1, none⟩) hbn).trans c1)
      obtain ⟨W0, hW0⟩ : ∃ W0, wr.drew = W0 := ⟨_, rfl⟩
      have d00 : W0.cell? ⟨n0, 0, none⟩ = some (.slice (some ⟨b, off, none⟩) L.length cap) := by rw [← hW0]; exact d0
      have e00 : W0.cell? ⟨b, off + j * 2, none⟩ = some (.slice x.a x.n x.cap) := by rw [← hW0]; exact e0
      have e01 : W0.cell? ⟨b, off + j * 2 + 1, none⟩ = some (.bool x.u) := by rw [← hW0]; exact e1
      have B0 : Below (n0 + 1) w1 W0 := by rw [← hW0]; exact HS.out.2.1.drew
      have S0 : SliceAt W0 46 3 (.slice va vn vc) (blkCells ((rblocks 0 L).take j)) := by rw [← hW0]; exact SliceAt.drew HS.out.1
      have hz0 : n0 + 1 ≤ W0.heap.size := by rw [← hW0]; exact hws
      rw [hW0] at hat
      obtain ⟨W1, hW1⟩ : ∃ W1, W0.alloc (.cells #[.slice (some ⟨b, off, none⟩) L.length cap] 59) = W1 := ⟨_, rfl⟩
      rw [hW1] at hat
      have T1 : Turn (fun _ => False) W0 W1 := by rw [← hW1]; exact (Turn.refl _ W0).alloc _
      have d10 := (T1.cell (p := ⟨n0, 0, none⟩) id (cell_lt d00)).trans d00
      have e10 := (T1.cell (p := ⟨b, off + j * 2, none⟩) id (cell_lt e00)).trans e00
      have e11 := (T1.cell (p := ⟨b, off + j * 2 + 1, none⟩) id (cell_lt e01)).trans e01
      have S1 : SliceAt W1 46 3 (.slice va vn vc) (blkCells ((rblocks 0 L).take j)) := S0.turn T1 fun _ _ => id
      have hz1 : W0.heap.size ≤ W1.heap.size := T1.size
      have B1 : Below (n0 + 1) w1 W1 := by rw [← hW1]; exact B0.alloc hz0 _
      obtain ⟨nb, hnb⟩ : ∃ nb, W1.heap.size = nb := ⟨_, rfl⟩
      obtain ⟨W2, hW2⟩ : ∃ W2, W1.alloc (.cells #[.int .i64 z, .int .i64 x.n, .bool (!x.u)] 46) = W2 := ⟨_, rfl⟩
      have T2 : Turn (fun _ => False) W1 W2 := by rw [← hW2]; exact (Turn.refl _ W1).alloc _
      have d20 := (T2.cell (p := ⟨n0, 0, none⟩) id (cell_lt d10)).trans d10
      have e20 := (T2.cell (p := ⟨b, off + j * 2, none⟩) id (cell_lt e10)).trans e10
      have e21 := (T2.cell (p := ⟨b, off + j * 2 + 1, none⟩) id (cell_lt e11)).trans e11
      have S2 : SliceAt W2 46 3 (.slice va vn vc) (blkCells ((rblocks 0 L).take j)) := S1.turn T2 fun _ _ => id
      have B2 : Below (n0 + 1) w1 W2 := by rw [← hW2]; exact B1.alloc (by omega) _
      have N2 : W2.heap[nb]? = some (.cells (acells (z, x.n, !x.u)).toArray 46 (0, 0)) := by rw [← hW2, ← hnb]; exact heap_alloc_new W1 _
      have hbl : (blkCells ((rblocks 0 L).take j)).length ≤ 48000 := by rw [blkCells_length, List.length_take, rblocks_length]; omega
      obtain ⟨v3, W3, hr3, S3, T3, O3, -⟩ := run_append (P := Try.prog) W2 25 25 25 46 3 24 (.agg #[.int .i64 0, .int .i64 0, .bool false]) Try.underlying25 (.inr ⟨_, Try.underlying25⟩) elemBlk (.slice va vn vc) _ S2 (.slice (some ⟨nb, 0, none⟩) 1 1) 1 (acells (z, x.n, !x.u))
        (Src.slice _ _ _ _ (by simp [acells]) fun k u hu => by rw [Addr.add_lit]; exact cell_at N2 (by simpa using hu)) (by intro u hu; simp [acells] at hu; rcases hu with rfl | rfl | rfl <;> rfl) (by simp [acells]; omega) (by simp [acells]; omega)
      have d30 := (T3.cell (p := ⟨n0, 0, none⟩) (fun e => by have := HS.out.2.2 n0 e; omega) (cell_lt d20)).trans d20
      have e30 := (T3.cell (p := ⟨b, off + j * 2, none⟩) (fun e => by have := HS.out.2.2 b e; omega) (cell_lt e20)).trans e20
      have e31 := (T3.cell (p := ⟨b, off + j * 2 + 1, none⟩) (fun e => by have := HS.out.2.2 b e; omega) (cell_lt e21)).trans e21
      have B3 : Below (n0 + 1) w1 W3 := B2.trans ⟨T3.os, T3.tape, T3.output, T3.size, fun k hk => T3.block k (by have := T2.size; omega) (fun e => by have := HS.out.2.2 k e; omega)⟩
      have FIN := Lib.hid (show SliceAt W3 46 3 v3 (blkCells ((rblocks 0 L).take (j + 1))) ∧ Below (n0 + 1) w1 W3 ∧ ∀ k, v3.ownBlock = some k → n0 + 1 ≤ k from ⟨by
          rw [List.take_add_one, hget, blkCells_append]
          simpa [blkCells] using S3, B3, fun k hk => by
          rcases O3 with q | q
          · rw [q] at hk; exact HS.out.2.2 k hk
          · rw [q] at hk; cases hk; have := T2.size; omega⟩)
      have HC := Lib.hid hat
      have HR := Lib.hid hr3
      clear hat hr3 S0 S1 S2 S3 T1 T2 T3 O3 B0 B1 B2 B3 N2 hbl hget hz hA e0 e1 c0 c1 d0 hx hz0 hz1 hws hbn
      refine wp_region_planL (aF := ?aF5) (aR := ?aR5) [3, 20, 21] [[], [3], [3, 20], [3, 20, 21]] 3 [(0, 0, 0), (0, 1, 1), (0, 2, 2), (1, 0, 0), (2, 0, 0), (3, 0, 1), (4, 1, 1), (5, 0, 0), (5, 1, 1), (5, 2, 2), (5, 3, 3), (6, 0, 0), (6, 1, 1), (6, 2, 2), (6, 3, 3), (7, 0, 0), (7, 1, 1), (7, 2, 2), (7, 3, 3), (8, 0, 0), (8, 1, 1), (8, 2, 2), (8, 3, 3), (9, 0, 0), (9, 1, 1), (9, 2, 2), (9, 3, 3), (10, 0, 0), (10, 1, 1), (11, 0, 0), (11, 1, 1), (12, 0, 0), (12, 1, 1), (12, 2, 2), (12, 3, 3), (13, 0, 0), (13, 1, 1), (13, 2, 2), (13, 3, 3), (14, 0, 0), (14, 1, 1), (14, 2, 2), (14, 3, 3), (15, 0, 0), (15, 1, 1), (15, 2, 2), (15, 3, 3), (16, 0, 0), (16, 1, 1), (16, 2, 2), (16, 3, 3), (17, 0, 0), (17, 1, 1), (18, 0, 0), (18, 1, 1), (19, 1, 1), (20, 1, 2), (21, 2, 3), (22, 3, 3)] [22]
        [W0, W1, W2, W3] [.slice va vn vc, .agg #[.slice (some ⟨b, off, none⟩) L.length cap], .int .i64 j, .int .i64 A, .int .i64 z, .pointer (some ⟨n0, 0, none⟩), .slice (some ⟨b, off, none⟩) L.length cap, .int .i64 j, .pointer (some ⟨b, off + j * 2, none⟩), .pointer (some ⟨b, off + j * 2, none⟩), .slice x.a x.n x.cap, .int .i64 x.n,
          .pointer (some ⟨n0, 0, none⟩), .slice (some ⟨b, off, none⟩) L.length cap, .int .i64 j, .pointer (some ⟨b, off + j * 2, none⟩), .pointer (some ⟨b, off + j * 2 + 1, none⟩), .bool x.u, .bool (!x.u), .agg #[.int .i64 z, .int .i64 x.n, .bool (!x.u)], .slice (some ⟨nb, 0, none⟩) 1 1, v3, v3]
        (by kernel_rfl) (by kernel_rfl) ?hF5 ?hR5 (by rw [hW0]; rfl) rfl rfl ?hob5 ?hend5
      case hF5 => simp only [putAll, Act.put]; go_simp; rfl
      case hR5 => simp only [putAllL, Act.put]; go_simp; rfl
      case hob5 =>
        clear hW0
        repeat' (first
          | exact oblsL_nil
          | (refine oblsL_cons rfl rfl rfl ?_ ?_)
          | exact RunsL.value rfl rfl rfl
          | exact RunsL.append rfl _ _ _ _ rfl _ _ _ rfl rfl HR.out rfl
          | (apply RunsL.value rfl; (focus (go_simp; try exact rfl)); exact rfl))
        all_goals exact .inl ⟨by simp [Region.wanted], .inr (.inr ⟨56, #[.agg #[.slice (some ⟨b, off, none⟩) L.length cap], .int .i64 j], by go_simp, HC.out.mono (by rintro e w' ⟨rfl, rfl⟩; exact ⟨rfl, rfl⟩)⟩)⟩
      case hend5 =>
        clear hW0
        go_wp2_with fail
        go_roundg (gk - 1)
        case measure => have := HJ.out; omega
        case rel =>
          have hjj := HJ.out
          have e1 : L.length - (gk - 1) = j + 1 := by omega
          rw [e1]
          exact ⟨by omega, by go_num, FIN.out⟩
    · obtain rfl : j = L.length := by have := HJ.out; omega
      go_wp2
      go_ret
      have hS := HS.out.1
      rw [List.take_of_length_le (by rw [rblocks_length]; exact Nat.le_refl _)] at hS
      exact ⟨_, rfl, hS, by rw [HN.out.1]; exact HN.out.2.1.trans (HS.out.2.1.mono (by omega))⟩
end Go.Sto
