/-
  A reader's block, walked.
-/
import Derived.Deep.CutRange
import Derived.Deep.LoopGhost
import Derived.BigRegion
import Derived.Test.YtahfoejffibahaaQStoNum
import Derived.Test.YtahfoejffibahaaQStoGrow2
import Derived.Test.YtahfoejffibahaaQOwnRegionH
set_option linter.unusedVariables false

namespace Go.Sto
open Go.Own Go.RowKit Go.Proofs

def nums (c : Nat) (l : List Int) : List Int := (List.range c).map fun j => dec ((l.drop (8 * j)).take 8)
theorem nums_length (c : Nat) (l : List Int) : (nums c l).length = c := by simp [nums]
theorem nums_succ (c : Nat) (l : List Int) : nums (c + 1) l = nums c l ++ [dec ((l.drop (8 * c)).take 8)] := by simp [nums, List.range_succ]

/-- A block out of bytes: its size, whether it is in use, its words, what is left; or an error. -/
def parse (pv : Option Bool) (left : Int) (l : List Int) : Except Int (Int × Bool × List Int × List Int) :=
  if l.length < 8 then .error 7 else
  if dec (l.take 8) < 2 ∨ dec (l.take 8) % 2 ≠ 0 ∨ left < dec (l.take 8) then .error 3 else
  if (l.drop 8).length < 8 then .error 7 else
  if dec ((l.drop 8).take 8) < 0 ∨ 1 < dec ((l.drop 8).take 8) ∨ (dec ((l.drop 8).take 8) ≠ 1 ∧ pv = some false) then .error 3 else
  if dec ((l.drop 8).take 8) = 1 then
    if ((l.drop 8).drop 8).length < 8 * ((dec (l.take 8)).toNat - 1) then .error 7 else
    .ok (dec (l.take 8), true, nums ((dec (l.take 8)).toNat - 1) ((l.drop 8).drop 8), ((l.drop 8).drop 8).drop (8 * ((dec (l.take 8)).toNat - 1)))
  else .ok (dec (l.take 8), false, [], (l.drop 8).drop 8)

/-- A block that is being read. -/
structure BI (w0 : World) (rb p : Nat) (at_ size : Int) (used : Bool) (v prv : Value) (w : World) : Prop where
  node : w.heap[p]? = some (.cells #[.int .i64 at_, .int .i64 size, .bool used, v, .pointer none, prv] 87 (0, 0))
  pnew : w0.heap.size ≤ p
  turn : Turn (fun k => k = rb) w0 w
  ko : KeepsOthers w0 w

section
variable {w0 w w' : World} {rb p : Nat} {at_ size : Int} {used : Bool} {v prv v' : Value}

theorem BI.turns (h : BI w0 rb p at_ size used v prv w) (hr : rb < w0.heap.size) (t : Turn (fun k => k = rb) w w') (hk : KeepsOthers w w') : BI w0 rb p at_ size used v prv w' :=
  ⟨(t.block p (heap_lt h.node) (fun e => by have := h.pnew; omega)).trans h.node, h.pnew, h.turn.trans t, h.ko.trans hk⟩

theorem BI.alloc (h : BI w0 rb p at_ size used v prv w) (o : Obj) : BI w0 rb p at_ size used v prv (w.alloc o) :=
  ⟨(heap_alloc_lt w o p (heap_lt h.node)).trans h.node, h.pnew, h.turn.alloc o, h.ko.trans (KeepsOthers.alloc _ _)⟩
theorem BI.drew (h : BI w0 rb p at_ size used v prv w) : BI w0 rb p at_ size used v prv w.drew := ⟨h.node, h.pnew, h.turn.drew, h.ko.trans (KeepsOthers.drew _)⟩

/-- New blocks and blocks of the call's own turn. -/
theorem BI.more (h : BI w0 rb p at_ size used v prv w) {T : Nat → Prop} (t : Turn T w w') (hT : ∀ k, k < w.heap.size → T k → w0.heap.size ≤ k ∧ k ≠ p) (hk : KeepsOthers w w') : BI w0 rb p at_ size used v prv w' :=
  ⟨(t.block p (heap_lt h.node) (fun e => (hT p (heap_lt h.node) e).2 rfl)).trans h.node, h.pnew,
   ⟨t.os.trans h.turn.os, t.tape.trans h.turn.tape, t.output.trans h.turn.output, Nat.le_trans h.turn.size t.size, fun k hk hn => by
      have := h.turn.size
      rw [t.block k (by omega) (fun e => by have := (hT k (by omega) e).1; omega)]
      exact h.turn.block k hk hn⟩, h.ko.trans hk⟩

theorem BI.set_at (h : BI w0 rb p at_ size used v prv w) (x : Int) : BI w0 rb p x size used v prv (w.setCell ⟨p, 0, none⟩ (.int .i64 x)) :=
  ⟨by rw [heap_setCell_self _ h.node]; rfl, h.pnew, h.turn.setCell (p := ⟨p, 0, none⟩) (fun hh => by have := h.pnew; simp at hh; omega) _, h.ko.trans (KeepsOthers.setCell _ _ _)⟩
theorem BI.set_used (h : BI w0 rb p at_ size used v prv w) (x : Bool) : BI w0 rb p at_ size x v prv (w.setCell ⟨p, 2, none⟩ (.bool x)) :=
  ⟨by rw [heap_setCell_self _ h.node]; rfl, h.pnew, h.turn.setCell (p := ⟨p, 2, none⟩) (fun hh => by have := h.pnew; simp at hh; omega) _, h.ko.trans (KeepsOthers.setCell _ _ _)⟩
theorem BI.set_words (h : BI w0 rb p at_ size used v prv w) (x : Value) : BI w0 rb p at_ size used x prv (w.setCell ⟨p, 3, none⟩ x) :=
  ⟨by rw [heap_setCell_self _ h.node]; rfl, h.pnew, h.turn.setCell (p := ⟨p, 3, none⟩) (fun hh => by have := h.pnew; simp at hh; omega) _, h.ko.trans (KeepsOthers.setCell _ _ _)⟩

theorem BI.cells (h : BI w0 rb p at_ size used v prv w) : w.cell? ⟨p, 0, none⟩ = some (.int .i64 at_) ∧ w.cell? ⟨p, 1, none⟩ = some (.int .i64 size) ∧ w.cell? ⟨p, 2, none⟩ = some (.bool used) ∧ w.cell? ⟨p, 3, none⟩ = some v ∧ ∀ i, w.frozen? ⟨p, i, none⟩ = false :=
  ⟨cell_at h.node rfl, cell_at h.node rfl, cell_at h.node rfl, cell_at h.node rfl, fun _i => frozen_at h.node⟩

theorem RD.cells {rb bb : Nat} {a : Option Addr} {cap : Nat} {sh : Bool} {l : List Int} {w : World} (h : RD rb bb a cap sh l w) : w.cell? ⟨rb, 0, none⟩ = some (.slice a l.length cap) ∧ w.cell? ⟨rb, 1, none⟩ = some (.bool sh) := ⟨cell_at h.blk rfl, cell_at h.blk rfl⟩

/-- Neither the reader nor its bytes have turned. -/
theorem RD.more {rb bb : Nat} {a : Option Addr} {cap : Nat} {sh : Bool} {l : List Int} {w w' : World} {T : Nat → Prop} (h : RD rb bb a cap sh l w) (t : Turn T w w') (hr : ¬ T rb) (hb : l ≠ [] → ¬ T bb) : RD rb bb a cap sh l w' :=
  { blk := (t.block rb (heap_lt h.blk) hr).trans h.blk, bytes := h.bytes.turn hb t, le := h.le, small := h.small, byte := h.byte }
theorem RD.drew {rb bb : Nat} {a : Option Addr} {cap : Nat} {sh : Bool} {l : List Int} {w : World} (h : RD rb bb a cap sh l w) : RD rb bb a cap sh l w.drew := ⟨h.blk, h.bytes, h.le, h.small, h.byte⟩
end

def Prev (rb : Nat) (ov : Option Addr) (at_ : Int) (pv : Option Bool) (w : World) : Prop :=
  (ov = none ∧ at_ = 0 ∧ pv = none) ∨
  ∃ q a0 s0 u0, ov = some ⟨q, 0, none⟩ ∧ w.cell? ⟨q, 0, none⟩ = some (.int .i64 a0) ∧ w.cell? ⟨q, 1, none⟩ = some (.int .i64 s0) ∧ w.cell? ⟨q, 2, none⟩ = some (.bool u0) ∧ at_ = a0 + s0 ∧ 0 ≤ a0 ∧ a0 ≤ 32000 ∧ 0 ≤ s0 ∧ s0 ≤ 32000 ∧ pv = some u0 ∧ q ≠ rb

def BlkPost (rb bb : Nat) (at_ : Int) (ov : Option Addr) (pv : Option Bool) (left : Int) (l : List Int) (w : World) (e : Ending) (w' : World) : Prop :=
  (∃ er, parse pv left l = .error er ∧ e = .returned (.tuple #[.pointer none, .int .i64 er]) ∧ Turn (fun k => k = rb) w w' ∧ KeepsOthers w w') ∨
  ∃ size used ws r p v a' cap', parse pv left l = .ok (size, used, ws, r) ∧ e = .returned (.tuple #[.pointer (some ⟨p, 0, none⟩), .int .i64 0]) ∧ BI w rb p at_ size used v (.pointer ov) w' ∧ SliceAt w' 3 1 v (icells ws) ∧ (∀ k, v.ownBlock = some k → w.heap.size ≤ k ∧ k ≠ p) ∧ RD rb bb a' cap' false r w'

/-- The words of a block are being read: i of them. -/
def BWI (w0 : World) (rb bb p : Nat) (at_ size : Int) (ov : Option Addr) (c : Nat) (l2 : List Int) (i : Nat) (w : World) : Prop :=
  ∃ sh v a' cap' X R, BI w0 rb p at_ size true v (.pointer ov) w ∧ SliceAt w 3 1 v (icells X) ∧ (∀ k, v.ownBlock = some k → w0.heap.size ≤ k ∧ k ≠ p) ∧ RD rb bb a' cap' sh R w ∧ X.length ≤ i ∧
    (sh = true → l2.length < 8 * c) ∧ (sh = false → X = nums i l2 ∧ R = l2.drop (8 * i) ∧ 8 * i ≤ l2.length)

/-- The stages of 'b.words = append(b.words, r.number())'. -/
def StR (w0 wR : World) (rb bb p : Nat) (at_ size : Int) (ov : Option Addr) (v : Value) (X : List Int) (d : Int) (R : List Int) (sh : Bool) (s : Nat) (ξ : Nat → Value) (w : World) : Prop :=
  match s with
  | 0 => w = wR.drew
  | 1 => (BI w0 rb p at_ size true v (.pointer ov) w ∧ SliceAt w 3 1 v (icells X) ∧ ∃ a' cap', RD rb bb a' cap' sh R w) ∧ ξ 6 = .int .i64 d
  | 2 => (BI w0 rb p at_ size true v (.pointer ov) w ∧ SliceAt w 3 1 v (icells X) ∧ ∃ a' cap', RD rb bb a' cap' sh R w) ∧ ∃ n, ξ 7 = .slice (some ⟨n, 0, none⟩) 1 1 ∧ w.heap[n]? = some (.cells #[.int .i64 d] 3 (0, 0))
  | 3 => BI w0 rb p at_ size true v (.pointer ov) w ∧ SliceAt w 3 1 (ξ 8) (icells (X ++ [d])) ∧ (∀ k, (ξ 8).ownBlock = some k → w0.heap.size ≤ k ∧ k ≠ p) ∧ ∃ a' cap', RD rb bb a' cap' sh R w
  | _ => BI w0 rb p at_ size true (ξ 8) (.pointer ov) w ∧ SliceAt w 3 1 (ξ 8) (icells (X ++ [d])) ∧ (∀ k, (ξ 8).ownBlock = some k → w0.heap.size ≤ k ∧ k ≠ p) ∧ ∃ a' cap', RD rb bb a' cap' sh R w

section
variable {w0 wR w : World} {rb bb p : Nat} {at_ size : Int} {ov : Option Addr} {v : Value} {X : List Int} {d : Int} {R R0 : List Int} {sh : Bool} {ξ : Nat → Value} {s : Nat}

theorem StR.ld (h : StR w0 wR rb bb p at_ size ov v X d R sh s ξ w) (h0 : BI w0 rb p at_ size true v (.pointer ov) wR) (hs : s ≤ 2) : w.cell? ⟨p, 3, none⟩ = some v := by
  match s, hs, h with
  | 0, _, h =>
    have h' : w = wR.drew := h
    subst h'
    exact h0.cells.2.2.2.1
  | 1, _, h => exact h.1.1.cells.2.2.2.1
  | 2, _, h => exact h.1.1.cells.2.2.2.1

theorem StR.call {a' : Option Addr} {cap' : Nat} (h0 : BI w0 rb p at_ size true v (.pointer ov) wR) (hsl : SliceAt wR 3 1 v (icells X)) (hov : ∀ k, v.ownBlock = some k → w0.heap.size ≤ k ∧ k ≠ p) (hrb : rb < w0.heap.size) (rd : RD rb bb a' cap' false R0 wR) (hn : num R0 false = (d, R, sh)) (ξ : Nat → Value) :
    Calls Try.prog 53 #[.pointer (some ⟨rb, 0, none⟩)] wR.drew fun e w' => ∃ u, e = .returned u ∧ StR w0 wR rb bb p at_ size ov v X d R sh 1 (updV ξ 6 u) w' := by
  refine (number_calls rd.drew).mono ?_
  rintro e w' ⟨rfl, ⟨a1, c1, r1⟩, t1, -, k1⟩
  rw [hn] at r1 ⊢
  refine ⟨_, rfl, ⟨h0.drew.turns hrb t1 k1, ?_, a1, c1, r1⟩, by simp [updV]⟩
  exact SliceAt.turn (SliceAt.drew hsl) t1 fun k hk e => by have := (hov k hk).1; omega

theorem StR.make (h : StR w0 wR rb bb p at_ size ov v X d R sh 1 ξ w) : StR w0 wR rb bb p at_ size ov v X d R sh 2 (updV ξ 7 (.slice (some ⟨w.heap.size, 0, none⟩) 1 1)) (w.alloc (.cells #[.int .i64 d] 3)) := by
  obtain ⟨⟨b1, s1, a1, c1, r1⟩, -⟩ := h
  exact ⟨⟨b1.alloc _, SliceAt.alloc s1 _, a1, c1, r1.more (T := fun _ => False) ((Turn.refl _ w).alloc _) id (fun _ => id)⟩, w.heap.size, by simp [updV], heap_alloc_new w _⟩

theorem StR.app (h : StR w0 wR rb bb p at_ size ov v X d R sh 2 ξ w) (hov : ∀ k, v.ownBlock = some k → w0.heap.size ≤ k ∧ k ≠ p) (hrb : rb < w0.heap.size) (hbw : R ≠ [] → bb < w0.heap.size) (hX : X.length ≤ 32000) :
    ∃ v' w', (Builtin.append_ #[24, 24] 24 #[v, ξ 7]).run Try.prog w = .ok v' w' ∧ StR w0 wR rb bb p at_ size ov v X d R sh 3 (updV ξ 8 v') w' := by
  obtain ⟨⟨b1, s1, a1, c1, r1⟩, n, hv, hn⟩ := h
  obtain ⟨v', w', hr, hs, ht, hw, -⟩ := run_append (P := Try.prog) w 24 24 24 3 1 8 (.int .i64 0) Try.underlying24 (.inr ⟨_, Try.underlying24⟩) elemInt v (icells X) s1 (ξ 7) 1 [.int .i64 d] (by rw [hv]; exact Src.one rfl hn) (by simp [Value.oneCell']) (by simp; omega) (by simp; omega)
  have hT : ∀ k, k < w.heap.size → v.ownBlock = some k → w0.heap.size ≤ k ∧ k ≠ p := fun k _ hk => hov k hk
  have hko : KeepsOthers w w' := KeepsOthers.of_turn ht fun k o hk ho => SliceAt.isCells s1 k o hk ho
  refine ⟨v', w', hr, b1.more ht hT hko, by simpa [updV, icells] using hs, fun k hk => ?_, a1, c1, r1.more ht (fun e => by have := (hov rb e).1; omega) (fun hne e => by have := (hov bb e).1; have := hbw hne; omega)⟩
  have hk' : v'.ownBlock = some k := by simpa [updV] using hk
  rcases hw with q | q
  · rw [q] at hk'; exact hov k hk'
  · rw [q] at hk'
    cases hk'
    have h1 := b1.turn.size
    have h2 := heap_lt b1.node
    exact ⟨h1, by omega⟩

theorem StR.sto (h : StR w0 wR rb bb p at_ size ov v X d R sh 3 ξ w) (hrp : rb ≠ p) (hbp : R ≠ [] → bb ≠ p) : StR w0 wR rb bb p at_ size ov v X d R sh 4 ξ (w.setCell ⟨p, 3, none⟩ (ξ 8)) := by
  obtain ⟨b1, s1, o1, a1, c1, r1⟩ := h
  have t : Turn (fun k => k = p) w (w.setCell ⟨p, 3, none⟩ (ξ 8)) := (Turn.refl (fun k => k = p) w).setCell (p := ⟨p, 3, none⟩) (fun _ => rfl) _
  exact ⟨b1.set_words _, s1.turn t fun k hk e => (o1 k hk).2 e, o1, a1, c1, r1.more t hrp hbp⟩
end

theorem num_false {l : List Int} (h : 8 ≤ l.length) : num l false = (dec (l.take 8), l.drop 8, false) := by unfold num; rw [if_neg (by omega)]
theorem num_short {l : List Int} (sh : Bool) (h : l.length < 8) : num l sh = (0, l, true) := by unfold num; rw [if_pos h]

theorem Prev.turn {rb : Nat} {ov : Option Addr} {at_ : Int} {pv : Option Bool} {w w' : World} {T : Nat → Prop} (h : Prev rb ov at_ pv w) (t : Turn T w w') (hT : ∀ q, ov = some ⟨q, 0, none⟩ → ¬ T q) : Prev rb ov at_ pv w' := by
  rcases h with q | ⟨q, a0, s0, u0, e1, d0, d1, d2, e2, b1, b2, b3, b4, e3, hq⟩
  · exact .inl q
  · have hqlt := cell_lt d0
    have c : ∀ i v, w.cell? ⟨q, i, none⟩ = some v → w'.cell? ⟨q, i, none⟩ = some v := fun i v hv => (t.cell (p := ⟨q, i, none⟩) (hT q e1) hqlt).trans hv
    exact .inr ⟨q, a0, s0, u0, e1, c _ _ d0, c _ _ d1, c _ _ d2, e2, b1, b2, b3, b4, e3, hq⟩

theorem Prev.lt {rb : Nat} {ov : Option Addr} {at_ : Int} {pv : Option Bool} {w : World} (h : Prev rb ov at_ pv w) : ∀ q, ov = some ⟨q, 0, none⟩ → q < w.heap.size ∧ q ≠ rb := by
  rintro q rfl
  rcases h with ⟨h2, -⟩ | ⟨q', a0', s0', u0', h2, h3, -, -, -, -, -, -, -, -, hq⟩
  · cases h2
  · cases h2; exact ⟨cell_lt h3, hq⟩

set_option maxRecDepth 100000 in
set_option maxHeartbeats 4000000 in
theorem blk_calls {w : World} {rb bb : Nat} {a : Option Addr} {cap : Nat} {l : List Int} (hr : RD rb bb a cap false l w) (hbb : l ≠ [] → bb < w.heap.size) {ov : Option Addr} {at_ : Int} {pv : Option Bool} (hp : Prev rb ov at_ pv w) (left : Int) (hl0 : 0 ≤ left) (hl1 : left ≤ 32000) :
    Calls Try.prog 54 #[.pointer (some ⟨rb, 0, none⟩), .pointer ov, .int .i64 left] w (BlkPost rb bb at_ ov pv left l w) := by
  have hrb : rb < w.heap.size := heap_lt hr.blk
  have hnc := number_calls hr
  have hn1 : (l.length < 8 ∧ num l false = (0, l, true)) ∨ (8 ≤ l.length ∧ num l false = (dec (l.take 8), l.drop 8, false)) := by
    rcases Nat.lt_or_ge l.length 8 with q | q
    · exact .inl ⟨q, num_short _ q⟩
    · exact .inr ⟨q, num_false q⟩
  obtain ⟨⟨n1, l1, s1⟩, hnm⟩ : ∃ r, num l false = r := ⟨_, rfl⟩
  unfold NumPost at hnc
  rw [hnm] at hnc hn1
  simp only at hnc
  have HC := Lib.hid (And.intro hnc (And.intro hn1 hbb))
  have HP := Lib.hid hp
  clear hnc hn1 hbb hp hr hnm
  go_enter Try.func54, Try.ntmps54
  go_upto_if 17 with (go_at_call 53; refine HC.out.1.mono ?_; rintro e w1 ⟨rfl, ⟨a1, c1, r1⟩, t1, hz1, k1⟩; have H1 := Lib.hid (And.intro r1 (And.intro t1 (And.intro hz1 k1))); clear r1 t1 hz1 k1)
  obtain ⟨wB, hwB⟩ : ∃ wB, w1.alloc (.cells #[.int .i64 0, .int .i64 n1, .bool false, .slice none 0 0, .pointer none, .pointer ov] 87) = wB := ⟨_, rfl⟩
  rw [hwB]
  obtain ⟨p, hpp⟩ : ∃ p, w1.heap.size = p := ⟨_, rfl⟩
  rw [hpp]
  have bi0 : BI w rb p 0 n1 false (.slice none 0 0) (.pointer ov) wB := ⟨by rw [← hwB, ← hpp]; exact heap_alloc_new w1 _, by rw [← hpp, H1.out.2.2.1]; exact Nat.le_refl _, by rw [← hwB]; exact H1.out.2.1.alloc _, by rw [← hwB]; exact H1.out.2.2.2.trans (KeepsOthers.alloc _ _)⟩
  have rdB : RD rb bb a1 c1 s1 l1 wB := by
    rw [← hwB]
    exact H1.out.1.more (T := fun _ => False) ((Turn.refl _ w1).alloc _) id (fun _ => id)
  have hprev : Prev rb ov at_ pv wB := by
    rcases HP.out with q | ⟨q, a0, s0, u0, e1, d0, d1, d2, e2, b1, b2, b3, b4, e3, hq⟩
    · exact .inl q
    · have hqlt := cell_lt d0
      have c : ∀ i v, w.cell? ⟨q, i, none⟩ = some v → wB.cell? ⟨q, i, none⟩ = some v := fun i v hv => (bi0.turn.cell (p := ⟨q, i, none⟩) hq hqlt).trans hv
      exact .inr ⟨q, a0, s0, u0, e1, c _ _ d0, c _ _ d1, c _ _ d2, e2, b1, b2, b3, b4, e3, hq⟩
  have HB := Lib.hid (And.intro bi0 (And.intro rdB hprev))
  clear bi0 rdB hprev hwB hpp
  go_cut [] from 18 to 29 (fun wx => BI w rb p at_ n1 false (.slice none 0 0) (.pointer ov) wx ∧ RD rb bb a1 c1 s1 l1 wx ∧ Prev rb ov at_ pv wx)
  case first =>
    rcases HB.out.2.2 with ⟨rfl, rfl, -⟩ | ⟨q, a0, s0, u0, rfl, d0, d1, d2, rfl, b1, b2, b3, b4, -, hq⟩
    · go_wp2_with fail
      go_meet
      exact HB.out
    · obtain ⟨k0, k1, k2, k3, kf⟩ := HB.out.1.cells
      have hw1 : IntKind.i64.wrap (a0 + s0) = a0 + s0 := IntWalk.i64_in _ (by omega)
      have kf0 := kf 0
      clear kf k1 k2 k3
      go_wp2_with fail
      go_region
      go_wp2_with fail
      go_meet
      have hqp : q ≠ p := fun e => by
        have h1 := HB.out.1.pnew
        rcases HP.out with ⟨h2, -⟩ | ⟨q', a0', s0', u0', h2, h3, -⟩
        · cases h2
        · cases h2
          have := cell_lt h3
          simp at this
          omega
      have hb2 := HB.out.1.pnew
      have hl1' := HC.out.2.2
      have t : Turn (fun k => k = p) wB (wB.setCell ⟨p, 0, none⟩ (.int .i64 (a0 + s0))).drew := ((Turn.refl (fun k => k = p) wB).setCell (p := ⟨p, 0, none⟩) (fun _ => rfl) _).drew
      have hqlt := cell_lt d0
      have c : ∀ i v, wB.cell? ⟨q, i, none⟩ = some v → (wB.setCell ⟨p, 0, none⟩ (.int .i64 (a0 + s0))).drew.cell? ⟨q, i, none⟩ = some v := fun i v hv => (t.cell (p := ⟨q, i, none⟩) hqp hqlt).trans hv
      refine ⟨(HB.out.1.set_at _).drew, HB.out.2.1.more t (fun e => ?_) (fun hne e => ?_), .inr ⟨q, a0, s0, u0, rfl, c _ _ d0, c _ _ d1, c _ _ d2, rfl, b1, b2, b3, b4, ?_, hq⟩⟩
      · have e' : rb = p := e
        omega
      · have e' : bb = p := e
        have : l ≠ [] := by
          rintro rfl
          rcases HC.out.2.1 with ⟨-, q⟩ | ⟨q, -⟩
          · cases q; exact hne rfl
          · simp at q
        have := hl1' this
        omega
      · rcases HP.out with ⟨h2, -⟩ | ⟨q', a0', s0', u0', h2, h3, h4, h5, -, -, -, -, -, h6, -⟩
        · cases h2
        · cases h2
          have h7 := (HB.out.1.turn.cell (p := ⟨q, 2, none⟩) hq (by have := cell_lt h5; exact this)).trans h5
          rw [d2] at h7
          cases h7
          exact h6
  case rest =>
    obtain ⟨bi, rd, hpv⟩ := hcut
    have H2 := Lib.hid (And.intro bi (And.intro rd hpv))
    obtain ⟨k0, k1, k2, k3, kf⟩ := bi.cells
    obtain ⟨r0, r1⟩ := rd.cells
    have hrp : rb ≠ p := fun e => by have := bi.pnew; omega
    have hrp' : p ≠ rb := fun e => hrp e.symm
    have hbp : l1 ≠ [] → bb ≠ p := fun hne e => by
      have h1 := bi.pnew
      have : l ≠ [] := by
        rintro rfl
        rcases HC.out.2.1 with ⟨-, q⟩ | ⟨q, -⟩
        · cases q; exact hne rfl
        · simp at q
      have := HC.out.2.2 this
      omega
    have HBP := Lib.hid hbp
    clear bi rd hpv k0 k3 r0 kf hbp k2
    go_upto_region 4 with fail
    by_cases hbad : 8 ≤ l.length ∧ (dec (l.take 8) < 2 ∨ dec (l.take 8) % 2 ≠ 0 ∨ left < dec (l.take 8))
    · have h3 : parse pv left l = .error 3 := by unfold parse; rw [if_neg (by omega), if_pos hbad.2]
      rcases HC.out.2.1 with ⟨hs, he⟩ | ⟨hs, he⟩
      · omega
      · cases he
        have FIN := Lib.hid (show BlkPost rb bb at_ ov pv left l w (.returned (.tuple #[.pointer none, .int .i64 3])) wc from .inl ⟨3, h3, rfl, H2.out.1.turn, H2.out.1.ko⟩)
        obtain ⟨d, hd⟩ : ∃ d, dec (l.take 8) = d := ⟨_, rfl⟩
        rw [hd] at hbad k1
        clear hs h3 hd
        by_cases hb1 : d < 2
        · have f1 : decide (d < 2) = true := decide_eq_true hb1
          clear hbad hb1
          go_wp2_with fail
          go_ret2
          exact FIN.out
        · have f1 : decide (d < 2) = false := decide_eq_false hb1
          have f0 : 0 ≤ d := by omega
          by_cases hb2 : d % 2 ≠ 0
          · have f2 : (d % 2 != 0) = true := by simp [hb2]
            have f3 : (d % 2 == 0) = false := by simp [hb2]
            clear hbad hb1 hb2
            go_wp2_with fail
            go_ret2
            exact FIN.out
          · have f2 : (d % 2 != 0) = false := by simpa using hb2
            have f3 : (d % 2 == 0) = true := by simpa using hb2
            have f4 : decide (left < d) = true := decide_eq_true (by omega)
            clear hbad hb1 hb2
            go_wp2_with fail
            go_ret2
            exact FIN.out
    · go_cut [57] from 30 to 57 (fun v wx => v = .bool false ∧ wx = wc)
      case first =>
        rcases HC.out.2.1 with ⟨hs, he⟩ | ⟨hs, he⟩
        · cases he
          go_wp2_with fail
          go_meet
          exact ⟨rfl, rfl⟩
        · cases he
          obtain ⟨d, hd⟩ : ∃ d, dec (l.take 8) = d := ⟨_, rfl⟩
          rw [hd] at hbad k1
          clear hd
          have hb : ¬ (d < 2 ∨ d % 2 ≠ 0 ∨ left < d) := fun q => hbad ⟨hs, q⟩
          have hb1 : 2 ≤ d := by omega
          have hb2 : d % 2 = 0 := by omega
          have f1 : decide (d < 2) = false := decide_eq_false (by omega)
          have f0 : 0 ≤ d := by omega
          have f2 : (d % 2 != 0) = false := by simpa using hb2
          have f3 : (d % 2 == 0) = true := by simpa using hb2
          have f4 : decide (left < d) = false := decide_eq_false (by omega)
          clear hbad hb hb1 hb2
          go_wp2_with fail
          go_meet
          exact ⟨rfl, rfl⟩
      case rest =>
        obtain ⟨rfl, rfl⟩ := hcut
        have hpq : ∀ q, ov = some ⟨q, 0, none⟩ → q ≠ p ∧ q ≠ rb := fun q e => by
          have := HP.out.lt q e
          have := H2.out.1.pnew
          exact ⟨by omega, by omega⟩
        have HBAD := Lib.hid (And.intro hbad hpq)
        have hnc2 := number_calls H2.out.2.1
        unfold NumPost at hnc2
        have hn2 : (l1.length < 8 ∧ num l1 s1 = (0, l1, true)) ∨ (8 ≤ l1.length ∧ num l1 s1 = (dec (l1.take 8), l1.drop 8, s1)) := by
          rcases Nat.lt_or_ge l1.length 8 with q | q
          · exact .inl ⟨q, num_short _ q⟩
          · exact .inr ⟨q, by unfold num; rw [if_neg (by omega)]⟩
        obtain ⟨⟨n2, l2, s2⟩, hnm2⟩ : ∃ r, num l1 s1 = r := ⟨_, rfl⟩
        rw [hnm2] at hnc2 hn2
        simp only at hnc2
        have HC2 := Lib.hid (And.intro hnc2 hn2)
        clear hbad hpq hnc2 hn2 hnm2 k1 r1
        go_upto_region 8 with (go_at_call 53; refine HC2.out.1.mono ?_; rintro e w2 ⟨rfl, ⟨a2, c2, r2⟩, t2, hz2, kk2⟩; have H3 := Lib.hid (And.intro (H2.out.1.turns hrb t2 kk2) (And.intro r2 (H2.out.2.2.turn t2 (fun q e hq => (HBAD.out.2 q e).2 hq)))); obtain ⟨m0, m1, m2, m3, mf⟩ := H3.out.1.cells; have mf2 := mf 2; clear r2 t2 hz2 kk2 mf m0 m1 m3)
        obtain ⟨w3, hw3⟩ : ∃ w3, w2.setCell ⟨p, 2, none⟩ (.bool (n2 == 1)) = w3 := ⟨_, rfl⟩
        have hbl2 : l2 ≠ [] → bb ≠ p := fun hne => HBP.out (by
          rintro rfl
          rcases HC2.out.2 with ⟨-, q⟩ | ⟨q, -⟩
          · cases q; exact hne rfl
          · simp at q)
        have t3 : Turn (fun k => k = p) w2 w3 := by rw [← hw3]; exact (Turn.refl (fun k => k = p) w2).setCell (p := ⟨p, 2, none⟩) (fun _ => rfl) _
        have bi3 : BI w rb p at_ n1 (n2 == 1) (.slice none 0 0) (.pointer ov) w3 := by rw [← hw3]; exact H3.out.1.set_used _
        have rd3 : RD rb bb a2 c2 s2 l2 w3 := H3.out.2.1.more t3 (fun e => hrp e) (fun hne e => hbl2 hne e)
        have pv3 : Prev rb ov at_ pv w3 := H3.out.2.2.turn t3 (fun q e hq => (HBAD.out.2 q e).1 hq)
        rw [hw3]
        have H4 := Lib.hid (And.intro bi3 (And.intro rd3 (And.intro pv3 hbl2)))
        obtain ⟨-, m1, m2', m3, -⟩ := bi3.cells
        obtain ⟨-, r1⟩ := rd3.cells
        clear bi3 rd3 pv3 t3 hbl2 hw3 m2 mf2
        by_cases hbf : s2 = false ∧ (n2 < 0 ∨ 1 < n2 ∨ (n2 ≠ 1 ∧ pv = some false))
        · obtain ⟨rfl, hbf⟩ := hbf
          have h3 : parse pv left l = .error 3 := by
            rcases HC2.out.2 with ⟨-, q⟩ | ⟨hs1, q⟩
            · cases q
            · cases q
              rcases HC.out.2.1 with ⟨hs, he⟩ | ⟨hs, he⟩
              · cases he
              · cases he
                unfold parse
                rw [if_neg (by omega), if_neg (fun q => HBAD.out.1 ⟨hs, q⟩), if_neg (by omega), if_pos hbf]
          have FIN := Lib.hid (show BlkPost rb bb at_ ov pv left l w (.returned (.tuple #[.pointer none, .int .i64 3])) w3 from .inl ⟨3, h3, rfl, H4.out.1.turn, H4.out.1.ko⟩)
          clear h3 m3 m1
          by_cases hb1 : n2 < 0
          · have f1 : decide (n2 < 0) = true := decide_eq_true hb1
            clear hbf hb1 m2'
            go_wp2_with fail
            go_ret2
            exact FIN.out
          · have f1 : decide (n2 < 0) = false := decide_eq_false hb1
            by_cases hb2 : 1 < n2
            · have f2 : decide (1 < n2) = true := decide_eq_true hb2
              clear hbf hb1 hb2 m2'
              go_wp2_with fail
              go_ret2
              exact FIN.out
            · have f2 : decide (1 < n2) = false := decide_eq_false hb2
              have hb3 : n2 ≠ 1 ∧ pv = some false := (hbf.resolve_left hb1).resolve_left hb2
              rcases H4.out.2.2.1 with ⟨-, -, e⟩ | ⟨q, a0, s0, u0, rfl, d0, d1, d2, -, -, -, -, -, e, -⟩
              · rw [hb3.2] at e; cases e
              · rw [hb3.2] at e
                cases e
                have f3 : (n2 == 1) = false := beq_eq_false_iff_ne.2 hb3.1
                rw [f3] at m2'
                clear hbf hb1 hb2 hb3 d0 d1
                go_wp2_with fail
                go_ret2
                exact FIN.out
        · have HBF := Lib.hid hbf
          go_cut [95] from 58 to 95 (fun v wx => v = .bool false ∧ wx = w3)
          case first =>
            rcases hs2 : s2 with _ | _
            · subst hs2
              have hb : ¬ (n2 < 0 ∨ 1 < n2 ∨ (n2 ≠ 1 ∧ pv = some false)) := fun q => hbf ⟨rfl, q⟩
              have f1 : decide (n2 < 0) = false := decide_eq_false (fun q => hb (.inl q))
              have f2 : decide (1 < n2) = false := decide_eq_false (fun q => hb (.inr (.inl q)))
              have hpv := H4.out.2.2.1
              by_cases hn : n2 = 1
              · have f3 : (n2 == 1) = true := by simp [hn]
                rw [f3] at m2'
                clear hbf hb hn hpv m1 m3
                go_wp2_with fail
                go_meet
                exact ⟨rfl, rfl⟩
              · have f3 : (n2 == 1) = false := beq_eq_false_iff_ne.2 hn
                rw [f3] at m2'
                have hpf : pv ≠ some false := fun q => hb (.inr (.inr ⟨hn, q⟩))
                rcases hpv with ⟨rfl, -, -⟩ | ⟨q, a0, s0, u0, rfl, d0, d1, d2, -, -, -, -, -, e, -⟩
                · clear hbf hb hn hpf m1 m3
                  go_wp2_with fail
                  go_meet
                  exact ⟨rfl, rfl⟩
                · have hu0 : u0 = true := by
                    cases u0 with
                    | true => rfl
                    | false => exact absurd e hpf
                  subst hu0
                  clear hbf hb hn hpf m1 m3 d0 d1 e
                  go_wp2_with fail
                  go_meet
                  exact ⟨rfl, rfl⟩
            · subst hs2
              clear hbf m1 m3
              go_wp2_with fail
              go_meet
              exact ⟨rfl, rfl⟩
          case rest =>
            obtain ⟨rfl, rfl⟩ := hcut
            clear hbf
            by_cases hn : n2 = 1
            · subst hn
              have hs2 : s2 = false := by
                rcases HC2.out.2 with ⟨-, q⟩ | ⟨hs1, q⟩
                · cases q
                · have h3 : s2 = s1 := congrArg (fun z => z.2.2) q
                  rcases HC.out.2.1 with ⟨hs', he⟩ | ⟨hs', he⟩
                  · have h4 : l1 = l := congrArg (fun z => z.2.1) he
                    rw [h4] at hs1; omega
                  · rw [h3]; exact congrArg (fun z => z.2.2) he
              subst hs2
              obtain ⟨hs, hs1, hn1, hl2⟩ : 8 ≤ l.length ∧ 8 ≤ l1.length ∧ n1 = dec (l.take 8) ∧ l1 = l.drop 8 := by
                rcases HC2.out.2 with ⟨-, q⟩ | ⟨hs1, q⟩
                · cases q
                · rcases HC.out.2.1 with ⟨hs', he⟩ | ⟨hs', he⟩
                  · have h4 : l1 = l := congrArg (fun z => z.2.1) he
                    rw [h4] at hs1; omega
                  · exact ⟨hs', hs1, congrArg (fun z => z.1) he, congrArg (fun z => z.2.1) he⟩
              obtain ⟨hd1, hd2⟩ : 1 = dec (l1.take 8) ∧ l2 = l1.drop 8 := by
                rcases HC2.out.2 with ⟨q1, q⟩ | ⟨q1, q⟩
                · cases q
                · have := congrArg Prod.fst q
                  have h2 := congrArg (fun z => z.2.1) q
                  exact ⟨this, h2⟩
              have hbb2 : ¬ (n1 < 2 ∨ n1 % 2 ≠ 0 ∨ left < n1) := fun q => HBAD.out.1 ⟨hs, by rw [← hn1]; exact q⟩
              obtain ⟨c, hc⟩ : ∃ c : Nat, n1 = c + 1 := ⟨n1.toNat - 1, by omega⟩
              have hc32 : 1 ≤ c ∧ c ≤ 32000 := by omega
              have hcc : n1.toNat - 1 = c := by omega
              have hpe : parse pv left l = if l2.length < 8 * c then .error 7 else .ok (n1, true, nums c l2, l2.drop (8 * c)) := by
                unfold parse
                rw [if_neg (by omega), if_neg (fun q => HBAD.out.1 ⟨hs, q⟩), ← hl2, if_neg (by omega), ← hd1, if_neg (by simp), if_pos rfl, ← hd2, ← hn1, hcc]
              have HPE := Lib.hid hpe
              have hst : BWI w rb bb p at_ n1 ov c l2 0 wc := ⟨false, .slice none 0 0, a2, c2, [], l2, H4.out.1, SliceAt.nil _ _ _, fun k hk => by simp [Value.ownBlock] at hk, H4.out.2.1, Nat.le_refl _, (fun q => by cases q), fun _ => ⟨rfl, rfl, by omega⟩⟩
              have HST := Lib.hid hst
              have hbw : l2 ≠ [] → bb < w.heap.size ∧ bb ≠ p := fun hne => ⟨HC.out.2.2 (by rintro rfl; simp at hs), H4.out.2.2.2 hne⟩
              have HBW := Lib.hid hbw
              subst hc
              clear hs hs1 hn1 hl2 hd1 hd2 hbb2 hcc hpe hst hbw m1 m2' m3 r1
              go_wp2
              go_loopg [10] (c) (fun k i wx => k ≤ c ∧ i = .int .i64 ((c - k + 1 : Nat) : Int) ∧ BWI w rb bb p at_ ((c : Int) + 1) ov c l2 (c - k) wx)
              case atStart => exact ⟨Nat.le_refl _, by simp, by simpa using HST.out⟩
              case round =>
                obtain ⟨hk, rfl, hW⟩ := hrel
                obtain ⟨i, hi⟩ : ∃ i, c - gk = i := ⟨_, rfl⟩
                rw [hi] at hW ⊢
                have HI := Lib.hid hi
                obtain ⟨sh, v, a', cap', X, R, bi, hsl, hov, rd, hXl, hsh1, hsh2⟩ := hW
                have HW := Lib.hid (And.intro bi (And.intro hsl (And.intro hov (And.intro rd (And.intro hXl (And.intro hsh1 hsh2))))))
                obtain ⟨-, m1, m2, m3, mf⟩ := bi.cells
                have mf3 := mf 3
                obtain ⟨-, r1⟩ := rd.cells
                have hic' : i ≤ c := by omega
                have hXc : X.length ≤ c := by omega
                clear hi bi hsl hov rd hXl hsh1 hsh2 mf
                by_cases hic : i < c
                · have g1 : decide (((i + 1 : Nat) : Int) < (c : Int) + 1) = true := by simp; omega
                  have g2 : decide ((i : Int) + 1 < (c : Int) + 1) = true := by simp; omega
                  rcases hsh : sh with _ | _
                  · subst hsh
                    go_upto_region 13 with fail
                    obtain ⟨⟨d, R', sh'⟩, hnR⟩ : ∃ r, num R false = r := ⟨_, rfl⟩
                    have hnR' := hnR
                    have hRle : R' ≠ [] → bb < w.heap.size ∧ bb ≠ p := fun hne => HBW.out (by
                      obtain ⟨-, hR, -⟩ := HW.out.2.2.2.2.2.2 rfl
                      rintro rfl
                      rw [hR] at hnR'
                      simp only [List.drop_nil] at hnR'
                      rw [num_short _ (by simp)] at hnR'
                      cases hnR'
                      exact hne rfl)
                    have HNR := Lib.hid (And.intro hnR hRle)
                    obtain ⟨va, vn, vc, rfl, -⟩ := HW.out.2.1.form
                    clear hnR hnR' hRle
                    refine wp_region_planH (aX := ?aX1) [6, 7, 8, 11] [[], [6], [6, 7], [6, 7, 8], [6, 7, 8, 11]] 4 [(0, 0, 0), (0, 1, 1), (0, 2, 2), (0, 3, 3), (1, 0, 0), (1, 1, 1), (1, 2, 2), (1, 3, 3), (2, 0, 0), (2, 1, 1), (2, 2, 2), (3, 0, 0), (3, 1, 1), (3, 2, 2), (4, 0, 0), (4, 1, 1), (4, 2, 2), (5, 0, 0), (6, 0, 1), (7, 1, 2), (8, 2, 3), (9, 3, 3), (10, 3, 3), (11, 3, 4)]
                      [.pointer (some ⟨p, 0, none⟩), .pointer (some ⟨p, 0, none⟩), .pointer (some ⟨p, 0, none⟩), .pointer (some ⟨p, 3, none⟩), .slice va vn vc, .pointer (some ⟨rb, 0, none⟩), undef, undef, undef, .pointer (some ⟨p, 0, none⟩), .pointer (some ⟨p, 3, none⟩), undef]
                      (StR w wr rb bb p at_ ((c : Int) + 1) ov (.slice va vn vc) X d R' sh') (by kernel_rfl) (by kernel_rfl) rfl ?hX1 (fun _ => undef) ?h01 ?hob1 ?hend1
                    case hX1 => intro ξ; simp only [mixAll, Act.put]; go_simp; rfl
                    case h01 => exact rfl
                    case hob1 =>
                      repeat' (first
                        | exact oblsH_nil
                        | (refine oblsH_cons rfl ?_ ?_)
                        | exact stepH_value rfl rfl (fun _ _ _ => rfl))
                      all_goals first
                        | (refine stepH_value rfl rfl ?_
                           rintro ξ w h
                           have k1 := StR.ld h HW.out.1 (by decide)
                           clear h
                           show _ = _
                           go_simp
                           rfl)
                        | (refine stepH_call rfl rfl ?_
                           rintro ξ w h
                           have h' : w = wr.drew := h
                           subst h'
                           exact ⟨53, #[.pointer (some ⟨rb, 0, none⟩)], by go_simp, StR.call HW.out.1 HW.out.2.1 HW.out.2.2.1 hrb HW.out.2.2.2.1 HNR.out.1 ξ⟩)
                        | (refine stepH_make rfl rfl ?_
                           rintro ξ w h
                           have hx : ξ 6 = .int .i64 d := h.2
                           have h' := StR.make h
                           clear h
                           refine ⟨_, _, ?_, h'⟩
                           clear h'
                           go_simp)
                        | (refine stepH_append rfl rfl _ _ _ _ rfl ?_
                           rintro ξ w h
                           obtain ⟨v', w', hr, h'⟩ := StR.app h HW.out.2.2.1 hrb (fun hne => (HNR.out.2 hne).1) (by omega)
                           exact ⟨v', w', hr, h'⟩)
                        | (refine stepH_store rfl rfl rfl ?_
                           rintro ξ w h
                           have h' := StR.sto h hrp (fun hne => (HNR.out.2 hne).2)
                           obtain ⟨pa, pn, pc, hv, -⟩ := h.2.1.form
                           obtain ⟨-, -, -, m3', mf'⟩ := h.1.cells
                           have mf3' := mf' 3
                           clear h mf'
                           refine ⟨_, ?_, h'⟩
                           clear h'
                           go_simp)
                    case hend1 =>
                      rintro ξ w5 h
                      have hb5 : BWI w rb bb p at_ ((c : Int) + 1) ov c l2 (i + 1) w5 := by
                        obtain ⟨b1, s1, o1, a1', c1', r1'⟩ := h
                        obtain ⟨hX, hR, h8⟩ := HW.out.2.2.2.2.2.2 rfl
                        refine ⟨sh', ξ 8, a1', c1', X ++ [d], R', b1, s1, o1, r1', by have := HW.out.2.2.2.2.1; simp; omega, fun e => ?_, fun e => ?_⟩
                        · subst e
                          have hn := HNR.out.1
                          unfold num at hn
                          split at hn
                          · rename_i q
                            rw [hR, List.length_drop] at q
                            omega
                          · cases hn
                        · subst e
                          have hn := HNR.out.1
                          unfold num at hn
                          split at hn
                          · cases hn
                          · rename_i q
                            rw [hR, List.length_drop] at q
                            simp only [Prod.mk.injEq] at hn
                            obtain ⟨e1, e2, -⟩ := hn
                            refine ⟨?_, ?_, by omega⟩
                            · rw [nums_succ, ← hX, ← hR, e1]
                            · rw [← e2, hR, List.drop_drop]
                              congr 1
                      have HF := Lib.hid hb5
                      clear h hb5
                      go_wp2_with fail
                      go_roundg (gk - 1)
                      case measure => have := HI.out; omega
                      case rel =>
                        have hii := HI.out
                        have e1 : c - (gk - 1) = i + 1 := by omega
                        rw [e1]
                        exact ⟨by omega, by go_num, HF.out⟩
                  · subst hsh
                    have h3 : parse pv left l = .error 7 := by rw [HPE.out, if_pos (HW.out.2.2.2.2.2.1 rfl)]
                    have FIN := Lib.hid (show BlkPost rb bb at_ ov pv left l w (.returned (.tuple #[.pointer none, .int .i64 7])) wr from .inl ⟨7, h3, rfl, HW.out.1.turn, HW.out.1.ko⟩)
                    clear h3 m3 mf3
                    go_wp2_with fail
                    go_ret2
                    exact FIN.out
                · have hie : i = c := by omega
                  subst hie
                  have g1 : decide (((i + 1 : Nat) : Int) < (i : Int) + 1) = false := by simp
                  have g2 : decide ((i : Int) + 1 < (i : Int) + 1) = false := by simp
                  rcases hsh : sh with _ | _
                  · subst hsh
                    obtain ⟨hX, hR, h8⟩ := HW.out.2.2.2.2.2.2 rfl
                    subst hX
                    subst hR
                    have h3 : parse pv left l = .ok ((i : Int) + 1, true, nums i l2, l2.drop (8 * i)) := by rw [HPE.out, if_neg (by omega)]
                    have FIN := Lib.hid (show BlkPost rb bb at_ ov pv left l w (.returned (.tuple #[.pointer (some ⟨p, 0, none⟩), .int .i64 0])) wr from .inr ⟨(i : Int) + 1, true, nums i l2, l2.drop (8 * i), p, v, a', cap', h3, rfl, HW.out.1, HW.out.2.1, HW.out.2.2.1, HW.out.2.2.2.1⟩)
                    clear h3 m3 mf3 h8
                    go_wp2_with fail
                    go_ret2
                    exact FIN.out
                  · subst hsh
                    have h3 : parse pv left l = .error 7 := by rw [HPE.out, if_pos (HW.out.2.2.2.2.2.1 rfl)]
                    have FIN := Lib.hid (show BlkPost rb bb at_ ov pv left l w (.returned (.tuple #[.pointer none, .int .i64 7])) wr from .inl ⟨7, h3, rfl, HW.out.1.turn, HW.out.1.ko⟩)
                    clear h3 m3 mf3
                    go_wp2_with fail
                    go_ret2
                    exact FIN.out
            · have f3 : (n2 == 1) = false := beq_eq_false_iff_ne.2 hn
              rw [f3] at m2'
              have HN := Lib.hid hn
              clear hn
              go_wp2
              go_loopg [10] 0 (fun k i wx => i = .int .i64 1 ∧ wx = wc)
              case atStart => exact ⟨rfl, rfl⟩
              case round =>
                obtain ⟨rfl, rfl⟩ := hrel
                rcases hs2 : s2 with _ | _
                · subst hs2
                  have h3 : parse pv left l = .ok (n1, false, [], l2) := by
                    rcases HC2.out.2 with ⟨-, q⟩ | ⟨hs1, q⟩
                    · cases q
                    · cases q
                      rcases HC.out.2.1 with ⟨hs, he⟩ | ⟨hs, he⟩
                      · cases he
                      · cases he
                        unfold parse
                        rw [if_neg (by omega), if_neg (fun q => HBAD.out.1 ⟨hs, q⟩), if_neg (by omega), if_neg (fun q => HBF.out ⟨rfl, q⟩), if_neg HN.out]
                  have bi := H4.out.1
                  rw [f3] at bi
                  have FIN := Lib.hid (show BlkPost rb bb at_ ov pv left l w (.returned (.tuple #[.pointer (some ⟨p, 0, none⟩), .int .i64 0])) wr from .inr ⟨n1, false, [], l2, p, _, a2, c2, h3, rfl, bi, SliceAt.nil _ _ _, fun k hk => by simp [Value.ownBlock] at hk, H4.out.2.1⟩)
                  clear h3 bi
                  go_wp2_with fail
                  go_ret2
                  exact FIN.out
                · subst hs2
                  have h3 : parse pv left l = .error 7 := by
                    unfold parse
                    by_cases hs : l.length < 8
                    · rw [if_pos hs]
                    · rcases HC2.out.2 with ⟨hs1, q⟩ | ⟨hs1, q⟩
                      · rcases HC.out.2.1 with ⟨hs', he⟩ | ⟨hs', he⟩
                        · omega
                        · cases he
                          rw [if_neg hs, if_neg (fun q => HBAD.out.1 ⟨by omega, q⟩), if_pos hs1]
                      · cases q
                        rcases HC.out.2.1 with ⟨hs', he⟩ | ⟨hs', he⟩
                        · omega
                        · cases he
                  have FIN := Lib.hid (show BlkPost rb bb at_ ov pv left l w (.returned (.tuple #[.pointer none, .int .i64 7])) wr from .inl ⟨7, h3, rfl, H4.out.1.turn, H4.out.1.ko⟩)
                  clear h3
                  go_wp2_with fail
                  go_ret2
                  exact FIN.out
end Go.Sto
