/-
  The reference's store as it lies in memory: a slice of blocks of two cells, a slice of words and a mark. New, At.
-/
import Derived.Deep.LoopGhost
import Derived.Test.YtahfoejffibahaaQStoRNum
import Derived.Test.YtahfoejffibahaaQStoGet
namespace Go.Sto
open Go.Own Go.RowKit Go.Proofs

/-- A block of the reference's: its words' slice, and whether it is in use. -/
structure RN where
  a : Option Addr
  n : Nat
  cap : Nat
  u : Bool

def rcell (x : RN) : List Value := [.slice x.a x.n x.cap, .bool x.u]
def rcells (L : List RN) : List Value := L.flatMap rcell
theorem rcells_append (A B : List RN) : rcells (A ++ B) = rcells A ++ rcells B := List.flatMap_append
theorem rcells_length (L : List RN) : (rcells L).length = L.length * 2 := by
  induction L with
  | nil => rfl
  | cons a L ih => simp only [rcells, List.flatMap_cons, List.length_append] at ih ⊢; rw [ih]; simp [rcell]; omega
theorem rcells_get : ∀ {L : List RN} {k : Nat} {x : RN}, L[k]? = some x → (rcells L)[k * 2]? = some (.slice x.a x.n x.cap) ∧ (rcells L)[k * 2 + 1]? = some (.bool x.u)
  | [], _, _, h => by simp at h
  | y :: L, 0, x, h => by
    simp only [List.getElem?_cons_zero, Option.some.injEq] at h
    subst h
    exact ⟨rfl, rfl⟩
  | y :: L, k + 1, x, h => by
    have ih := rcells_get (L := L) (k := k) (x := x) (by simpa using h)
    have e : rcells (y :: L) = rcell y ++ rcells L := rfl
    have e1 : (k + 1) * 2 = k * 2 + 2 := by omega
    have e2 : (k + 1) * 2 + 1 = k * 2 + 1 + 2 := by omega
    rw [e, e1, show k * 2 + 2 + 1 = k * 2 + 1 + 2 by omega]
    exact ⟨by rw [List.getElem?_append_right (by simp [rcell])]; simpa [rcell] using ih.1, by rw [List.getElem?_append_right (by simp [rcell])]; simpa [rcell] using ih.2⟩

def rsz : List RN → Nat
  | [] => 0
  | x :: L => x.n + rsz L
theorem rsz_append (A B : List RN) : rsz (A ++ B) = rsz A + rsz B := by
  induction A with
  | nil => simp [rsz]
  | cons a A ih => simp [rsz, ih]; omega
theorem rsz_take {L : List RN} {i : Nat} {x : RN} (h : L[i]? = some x) : rsz (L.take (i + 1)) = rsz (L.take i) + x.n := by
  rw [List.take_add_one, h, rsz_append]; simp [rsz]
theorem rsz_take_le (L : List RN) (i : Nat) : rsz (L.take i) ≤ rsz L := by
  have : rsz L = rsz (L.take i) + rsz (L.drop i) := by rw [← rsz_append, List.take_append_drop]
  omega

def RefAt (w : World) (v : Value) (L : List RN) : Prop := SliceAt w 108 2 v (rcells L)

theorem RefAt.form {w : World} {v : Value} {L : List RN} (h : RefAt w v L) :
    ∃ a cap, v = .slice a L.length cap ∧ L.length ≤ cap ∧ cap ≤ maxLen ∧ ∀ k x, L[k]? = some x → ∃ b off, a = some ⟨b, off, none⟩ ∧ w.cell? ⟨b, off + k * 2, none⟩ = some (.slice x.a x.n x.cap) ∧ w.cell? ⟨b, off + k * 2 + 1, none⟩ = some (.bool x.u) := by
  obtain ⟨a, n, cap, rfl, hl, hn, hc, -⟩ := SliceAt.form h
  have : n = L.length := by rw [rcells_length] at hl; omega
  subst this
  refine ⟨a, cap, rfl, hn, hc, fun k x hx => ?_⟩
  have hk : k < L.length := (List.getElem?_eq_some_iff.1 hx).1
  obtain ⟨b, off, rfl⟩ := SliceAt.addr h (by omega)
  obtain ⟨h1, h2⟩ := rcells_get hx
  exact ⟨b, off, rfl, SliceAt.cells h _ _ h1, by rw [Nat.add_assoc]; exact SliceAt.cells h _ _ h2⟩

theorem RefAt.below {w w' : World} {v : Value} {L : List RN} (h : RefAt w v L) (hB : Below w.heap.size w w') : RefAt w' v L := SliceAt.keep h fun k hk => hB.block k (h.lt k hk)

theorem res_ct {fn : Func} {p u : Tmp} (h : fn.results = #[.cell p 59, .tmp u]) (tmps : Array Value) (w : World) {g : Nat} {v : Value} (hp : tmps.getD p undef = .pointer (some ⟨g, 0, none⟩)) (hc : w.cell? ⟨g, 0, none⟩ = some v) :
    (results fn tmps).run Try.prog w = .ok (.tuple #[.agg #[v], tmps.getD u undef]) w := by
  rw [results_cell_tmp h, hp]
  go_simp

set_option maxRecDepth 100000 in
set_option maxHeartbeats 1000000 in
theorem rnew_bad (n : Int) (hn : ¬ (4 ≤ n ∧ n ≤ 32000 ∧ n % 2 = 0)) (w : World) :
    Calls Try.prog 32 #[.int .i64 n] w fun e w' => e = .returned (.tuple #[.agg #[.slice none 0 0], .int .i64 1]) ∧ Below w.heap.size w w' := by
  have fin : Below w.heap.size w (w.alloc (.cells #[.slice none 0 0] 59)) := (Below.refl _ w).alloc (Nat.le_refl _) _
  by_cases h1 : n < 4
  · have f1 : decide (n < 4) = true := decide_eq_true h1
    clear hn h1
    go_enter Try.func32, Try.ntmps32
    go_wp2
    refine bodyPost_ret (res_ct (v := .slice none 0 0) rfl _ _ rfl (cell_at (heap_alloc_new w _) rfl)) rfl ?_
    exact ⟨rfl, fin⟩
  · have f1 : decide (n < 4) = false := decide_eq_false h1
    by_cases h2 : 32000 < n
    · have f2 : decide (32000 < n) = true := decide_eq_true h2
      clear hn h1 h2
      go_enter Try.func32, Try.ntmps32
      go_wp2
      refine bodyPost_ret (res_ct (v := .slice none 0 0) rfl _ _ rfl (cell_at (heap_alloc_new w _) rfl)) rfl ?_
      exact ⟨rfl, fin⟩
    · have f2 : decide (32000 < n) = false := decide_eq_false h2
      have h3 : n % 2 = 1 := by omega
      have f3 : (n % 2 == 1) = true := by simp [h3]
      have f0 : 0 ≤ n := by omega
      clear hn h1 h2 h3
      go_enter Try.func32, Try.ntmps32
      go_wp2
      refine bodyPost_ret (res_ct (v := .slice none 0 0) rfl _ _ rfl (cell_at (heap_alloc_new w _) rfl)) rfl ?_
      exact ⟨rfl, fin⟩

set_option maxRecDepth 100000 in
set_option maxHeartbeats 1000000 in
theorem rnew_good (n : Nat) (h0 : 4 ≤ n) (h1 : n ≤ 32000) (h2 : n % 2 = 0) (w : World) :
    Calls Try.prog 32 #[.int .i64 n] w fun e w' => e = .returned (.tuple #[.agg #[.slice (some ⟨w.heap.size + 2, 0, none⟩) 1 1], .int .i64 0]) ∧
      w' = ((w.alloc (.cells #[.slice (some ⟨w.heap.size + 2, 0, none⟩) 1 1] 59)).alloc (.cells (icells (zeros n)).toArray 3)).alloc (.cells #[.slice (some ⟨w.heap.size + 1, 0, none⟩) n n, .bool false] 108) := by
  have f1 : decide ((n : Int) < 4) = false := decide_eq_false (by omega)
  have f1' : decide (n < 4) = false := decide_eq_false (by omega)
  have f2 : decide ((32000 : Int) < (n : Int)) = false := decide_eq_false (by omega)
  have f2' : decide (32000 < n) = false := decide_eq_false (by omega)
  have h3 : (n : Int) % 2 = 0 := by omega
  have f3 : ((n : Int) % 2 == 1) = false := by simp [h3]
  clear h2 h3
  go_enter Try.func32, Try.ntmps32
  go_wp2
  rw [make_ints (n : Int) n rfl (by omega)]
  go_wp2
  refine bodyPost_ret (res_ct (v := .slice (some ⟨w.heap.size + 2, 0, none⟩) 1 1) rfl _ _ rfl ?_) rfl ⟨rfl, rfl⟩
  refine cell_at (cur := #[.slice (some ⟨w.heap.size + 2, 0, none⟩) 1 1]) ((heap_alloc_lt _ _ _ (by simp; omega)).trans ((heap_alloc_lt _ _ _ (by simp)).trans (heap_alloc_new w _))) rfl

set_option maxRecDepth 100000 in
set_option maxHeartbeats 1000000 in
theorem rat_calls {w : World} {a : Option Addr} {cap : Nat} {L : List RN} (h : RefAt w (.slice a L.length cap) L) (hs : rsz L ≤ 32000) (hl : L.length ≤ 32000) (i : Nat) (hi : i ≤ L.length) :
    Calls Try.prog 56 #[.agg #[.slice a L.length cap], .int .i64 i] w fun e w' => e = .returned (.int .i64 (1 + (rsz (L.take i) : Nat))) ∧ w' = w.alloc (.cells #[.slice a L.length cap] 59) := by
  obtain ⟨a', cap', e', hn, hc, hcell⟩ := h.form
  cases e'
  have H := Lib.hid (And.intro h hcell)
  clear h hcell
  go_enter Try.func56, Try.ntmps56
  go_wp2
  obtain ⟨w1, hw1⟩ : ∃ w1, w.alloc (.cells #[.slice a L.length cap] 59) = w1 := ⟨_, rfl⟩
  have d0 : w1.cell? ⟨w.heap.size, 0, none⟩ = some (.slice a L.length cap) := by rw [← hw1]; exact cell_at (heap_alloc_new w _) rfl
  have hB1 : Below w.heap.size w w1 := by rw [← hw1]; exact (Below.refl _ w).alloc (Nat.le_refl _) _
  rw [hw1]
  have HW := Lib.hid hw1
  clear hw1
  go_loopg [5, 6] (i) (fun k v x wx => k ≤ i ∧ x = .int .i64 ((i - k : Nat) : Int) ∧ v = .int .i64 (1 + (rsz (L.take (i - k)) : Nat)) ∧ wx = w1)
  case atStart => exact ⟨Nat.le_refl _, by simp, by simp [rsz], rfl⟩
  case round =>
    obtain ⟨hk, rfl, rfl, rfl⟩ := hrel
    obtain ⟨j, hj⟩ : ∃ j, i - gk = j := ⟨_, rfl⟩
    rw [hj]
    have HJ := Lib.hid hj
    clear hj
    by_cases hlt : j < i
    · obtain ⟨x, hx⟩ : ∃ x, L[j]? = some x := ⟨_, List.getElem?_eq_getElem (by omega)⟩
      have hjl : j < L.length := by omega
      obtain ⟨b, off, rfl, c0, -⟩ := H.out.2 j x hx
      have e0 := (hB1.cell (p := ⟨b, off + j * 2, none⟩) (cell_lt c0)).trans c0
      have ht := rsz_take hx
      have h1 := rsz_take_le L (j + 1)
      have hxn : x.n ≤ 32000 := by omega
      have hjn : rsz (L.take j) ≤ 32000 := by omega
      have HT := Lib.hid ht
      obtain ⟨z, hz⟩ : ∃ z, rsz (L.take j) = z := ⟨_, rfl⟩
      rw [hz] at HT hjn ⊢
      have hw : IntKind.i64.wrap (1 + (z : Int) + (x.n : Int)) = 1 + (z : Int) + (x.n : Int) := IntWalk.i64_in _ (by omega)
      have hw2 : wrap64 (1 + (z : Int) + (x.n : Int)) = 1 + (z : Int) + (x.n : Int) := by unfold wrap64; omega
      clear ht h1 hx c0 hz
      go_wp2
      go_roundg (gk - 1)
      case measure => have := HJ.out; omega
      case rel =>
        have hjj := HJ.out
        have e1 : i - (gk - 1) = j + 1 := by omega
        rw [e1, HT.out]
        exact ⟨by omega, by go_num, by simp; omega, rfl⟩
    · obtain rfl : j = i := by have := HJ.out; omega
      go_wp2
      go_ret
      exact ⟨rfl, HW.out.symm⟩
end Go.Sto
