/-
  THE STORE AS A PLAIN LIST OF BLOCKS: what each call makes of it. No program in sight.
-/
import Derived.WalkKit
import Derived.RangeFuncCalls
import Derived.Test.YtahfoejffibahaaQOwn
import Derived.Test.YtahfoejffibahaaRows
set_option linter.unusedVariables false

namespace Go.Sto

/-- A block: its words with the head, whether it is in use, and its words without the head, if it is. -/
structure Blk where
  size : Nat
  used : Bool
  ws : List Int

abbrev St := List Blk

def sz : St → Nat
  | [] => 0
  | b :: r => b.size + sz r

theorem sz_append (A B : St) : sz (A ++ B) = sz A + sz B := by
  induction A with
  | nil => simp [sz]
  | cons a A ih => simp [sz, ih]; omega

def need (k : Int) : Nat := max 2 ((k.toNat + 2) / 2 * 2)
def hole (m : Nat) : Blk := ⟨m, false, []⟩
def zeros (m : Nat) : List Int := List.replicate m 0
def resize (l : List Int) (m : Nat) : List Int := (l ++ zeros m).take m
def rest (size m : Nat) : St := if size = m then [] else [hole (size - m)]

/-- The first block that p holds of: its index. -/
def hit (p : Nat → Blk → Bool) : Nat → St → Option Nat
  | _, [] => none
  | at_, b :: r => if p at_ b then some 0 else (hit p (at_ + b.size) r).map (· + 1)

theorem hit_some {p : Nat → Blk → Bool} : ∀ {S : St} {a i : Nat}, hit p a S = some i → ∃ A x B, S = A ++ x :: B ∧ A.length = i ∧ p (a + sz A) x = true ∧ ∀ A' y B', A = A' ++ y :: B' → p (a + sz A') y = false
  | [], _, _, h => by cases h
  | b :: r, a, i, h => by
    unfold hit at h
    by_cases hb : p a b = true
    · rw [if_pos hb] at h
      cases h
      exact ⟨[], b, r, rfl, rfl, by simpa [sz] using hb, fun A' y B' e => by cases A' <;> cases e⟩
    · rw [if_neg hb] at h
      obtain ⟨j, hj, rfl⟩ := Option.map_eq_some_iff.1 h
      obtain ⟨A, x, B, rfl, rfl, hx, hA⟩ := hit_some hj
      refine ⟨b :: A, x, B, rfl, rfl, by simpa [sz, Nat.add_assoc] using hx, fun A' y B' e => ?_⟩
      cases A' with
      | nil => cases e; simpa [sz] using hb
      | cons c A' =>
        simp only [List.cons_append, List.cons.injEq] at e
        obtain ⟨rfl, rfl⟩ := e
        have := hA A' y B' rfl
        simpa [sz, Nat.add_assoc] using this

theorem hit_at {p : Nat → Blk → Bool} : ∀ {A : St} {a : Nat} {x : Blk} {B : St}, p (a + sz A) x = true → (∀ A' y B', A = A' ++ y :: B' → p (a + sz A') y = false) → hit p a (A ++ x :: B) = some A.length
  | [], a, x, B, hx, _ => by simp only [sz, Nat.add_zero] at hx; simp [hit, hx]
  | b :: A, a, x, B, hx, hA => by
    have h0 := hA [] b A rfl
    simp only [sz, Nat.add_zero] at h0
    have h1 : hit p (a + b.size) (A ++ x :: B) = some A.length := hit_at (by simpa [sz, Nat.add_assoc] using hx) (fun A' y B' e => by
      have := hA (b :: A') y B' (by rw [e]; rfl)
      simpa [sz, Nat.add_assoc] using this)
    simp [hit, h0, h1]

theorem hit_none {p : Nat → Blk → Bool} : ∀ {S : St} {a : Nat}, (∀ A y B, S = A ++ y :: B → p (a + sz A) y = false) → hit p a S = none
  | [], _, _ => rfl
  | b :: r, a, h => by
    have h0 := h [] b r rfl
    simp only [sz, Nat.add_zero] at h0
    have h1 : hit p (a + b.size) r = none := hit_none (fun A y B e => by
      have := h (b :: A) y B (by rw [e]; rfl)
      simpa [sz, Nat.add_assoc] using this)
    simp [hit, h0, h1]

theorem of_hit_none {p : Nat → Blk → Bool} {S : St} {a : Nat} (h : hit p a S = none) {A : St} {y : Blk} {B : St} (e : S = A ++ y :: B) : p (a + sz A) y = false := by
  induction S generalizing a A with
  | nil => cases A <;> cases e
  | cons b r ih =>
    unfold hit at h
    by_cases hb : p a b = true
    · rw [if_pos hb] at h; cases h
    · rw [if_neg hb] at h
      cases A with
      | nil => cases e; simpa [sz] using hb
      | cons c A =>
        simp only [List.cons_append, List.cons.injEq] at e
        obtain ⟨rfl, rfl⟩ := e
        have := ih (Option.map_eq_none_iff.1 h) rfl
        simpa [sz, Nat.add_assoc] using this

/-- Whether a block is the one in use with the address a. -/
def isAt (a : Int) (at_ : Nat) (b : Blk) : Bool := b.used && decide ((at_ : Int) + 1 = a)
/-- Whether a block is free and has m words. -/
def fits (m : Nat) (_ : Nat) (b : Blk) : Bool := !b.used && decide (m ≤ b.size)

def find (a : Int) (S : St) : Option Nat := hit (isAt a) 0 S

/-- A block before a store: joined with its first one where both are free. -/
def add (b : Blk) : St → St
  | [] => [b]
  | c :: r => if b.used = false ∧ c.used = false then hole (b.size + c.size) :: r else b :: c :: r
def fuse (S : St) : St := S.foldr add []

/-- Block i becomes one of m words in use; the rest of it is free. -/
def cutAt (S : St) (i m : Nat) (ws : List Int) : St :=
  match S.drop i with
  | [] => S
  | x :: B => S.take i ++ ⟨m, true, ws⟩ :: (rest x.size m ++ B)

def get (S : St) (k : Int) : St × Int × Int :=
  if k < 0 ∨ 32000 < k then (S, 0, 1) else
  match hit (fits (need k)) 0 S with
  | none => (S, 0, 2)
  | some i => (cutAt S i (need k) (zeros (need k - 1)), (sz (S.take i) : Int) + 1, 0)

def freeAt (S : St) (i : Nat) : St :=
  match S.drop i with
  | [] => S
  | x :: B => fuse (S.take i ++ hole x.size :: B)

def put (S : St) (a : Int) : St × Int :=
  match find a S with
  | none => (S, 180)
  | some i => (freeAt S i, 0)

/-- The block's words are others. -/
def setWords (S : St) (i : Nat) (ws : List Int) : St :=
  match S.drop i with
  | [] => S
  | x :: B => S.take i ++ ⟨x.size, x.used, ws⟩ :: B

def wordsAt (S : St) (i : Nat) : List Int :=
  match S.drop i with
  | [] => []
  | x :: _ => x.ws

def size (S : St) (a : Int) : Int × Int :=
  match find a S with
  | none => (0, 180)
  | some i => ((wordsAt S i).length, 0)

def write (S : St) (a i v : Int) : St × Int :=
  match find a S with
  | none => (S, 180)
  | some j => if i < 0 ∨ (wordsAt S j).length ≤ i then (S, 1) else (setWords S j ((wordsAt S j).set i.toNat v), 0)

def read (S : St) (a i : Int) : Int × Int :=
  match find a S with
  | none => (0, 180)
  | some j => if i < 0 ∨ (wordsAt S j).length ≤ i then (0, 1) else ((wordsAt S j).getD i.toNat 0, 0)

/-- Grow, where the block stays: it has 'have_' words, and B is behind them. -/
def grow (S : St) (a k : Int) : St × Int × Int :=
  match find a S with
  | none => (S, 0, 180)
  | some i =>
    if k < 0 ∨ 32000 < k then (S, 0, 1) else
    match S.drop i with
    | [] => (S, 0, 180)
    | x :: B =>
      let A := S.take i
      let m := need k
      let ws := resize x.ws (m - 1)
      let away : St × Int × Int :=
        match get S k with
        | (T, to, 0) => ((put (match find to T with | some j => setWords T j ws | none => T) a).1, to, 0)
        | (_, _, e) => (S, 0, e)
      if m ≤ x.size then (fuse (A ++ ⟨m, true, ws⟩ :: (rest x.size m ++ B)), a, 0) else
      match B with
      | [] => away
      | y :: C => if y.used = false ∧ m ≤ x.size + y.size then (fuse (A ++ ⟨m, true, ws⟩ :: (rest (x.size + y.size) m ++ C)), a, 0) else away

/-- What Blocks tells of the blocks from an address on. -/
def blocks : Nat → St → List (Nat × Nat × Bool)
  | _, [] => []
  | at_, b :: r => (at_, b.size, !b.used) :: blocks (at_ + b.size) r

def freeWords : St → Nat
  | [] => 0
  | b :: r => (if b.used then 0 else b.size) + freeWords r
def largest : St → Nat
  | [] => 0
  | b :: r => max (if b.used then 0 else b.size - 1) (largest r)

/-! ### What always holds -/

def Norm : St → Prop
  | a :: b :: r => ¬ (a.used = false ∧ b.used = false) ∧ Norm (b :: r)
  | _ => True

structure Good (b : Blk) : Prop where
  two : 2 ≤ b.size
  even : b.size % 2 = 0
  full : b.used = true → b.ws.length + 1 = b.size
  bare : b.used = false → b.ws = []
  wf : ∀ v ∈ b.ws, (Lit.int .i64 v).wf = true

structure Ok (n : Nat) (S : St) : Prop where
  lo : 4 ≤ n
  hi : n ≤ 32000
  even : n % 2 = 0
  sum : sz S = n
  good : ∀ b ∈ S, Good b
  norm : Norm S
end Go.Sto

/-
  How a store lies in memory: its own block of two cells, a doubly linked chain of blocks of six cells, each one's words in a row of its own; which of the heap's blocks are its own (tags).
-/
namespace Go.Sto
open Go.Own Go.RowKit

def icells (l : List Int) : List Value := l.map (Value.int .i64)
@[simp] theorem icells_length (l : List Int) : (icells l).length = l.length := List.length_map _
theorem icells_append (a b : List Int) : icells (a ++ b) = icells a ++ icells b := List.map_append
theorem icells_take (a : List Int) (m : Nat) : icells (a.take m) = (icells a).take m := List.map_take
theorem icells_zeros (m : Nat) : icells (zeros m) = List.replicate m (.int .i64 0) := by simp [icells, zeros]

def SliceT (ρ : Tags) (t : Tag) (w : World) (e : TypeId) (sz : Nat) (v : Value) (xs : List Value) : Prop := SliceAt w e sz v xs ∧ ∀ b, v.ownBlock = some b → ρ b = t

theorem SliceT.keep {ρ ρ' : Tags} {t : Tag} {w w' : World} {e : TypeId} {sz : Nat} {v : Value} {xs : List Value} (h : SliceT ρ t w e sz v xs)
    (hb : ∀ k, k < w.heap.size → ρ k = t → w'.heap[k]? = w.heap[k]?) (hr : ∀ k, k < w.heap.size → ρ' k = ρ k) : SliceT ρ' t w' e sz v xs :=
  ⟨h.1.keep fun k hk => hb k (h.1.lt k hk) (h.2 k hk), fun k hk => (hr k (h.1.lt k hk)).trans (h.2 k hk)⟩
theorem SliceT.nil (ρ : Tags) (t : Tag) (w : World) (e : TypeId) (sz : Nat) : SliceT ρ t w e sz (.slice none 0 0) [] := ⟨SliceAt.nil w e sz, fun b hb => by simp [Value.ownBlock] at hb⟩

/-- A block of the store: where it lies, its words' slice, what it is. -/
structure Nd where
  p : Nat
  v : Value
  b : Blk

def ptr (o : Option Nat) : Value := .pointer (o.map fun b => ⟨b, 0, none⟩)
@[simp] theorem ptr_none : ptr none = .pointer none := rfl
@[simp] theorem ptr_some (b : Nat) : ptr (some b) = .pointer (some ⟨b, 0, none⟩) := rfl

def ndCells (at_ : Nat) (x : Nd) (nx pv : Option Nat) : Array Value := #[.int .i64 at_, .int .i64 x.b.size, .bool x.b.used, x.v, ptr nx, ptr pv]

def hd : List Nd → Option Nat → Option Nat
  | [], nx => nx
  | y :: _, _ => some y.p
def lst : List Nd → Option Nat → Option Nat
  | [], pr => pr
  | y :: r, _ => lst r (some y.p)
def bs (L : List Nd) : St := L.map Nd.b
@[simp] theorem bs_nil : bs [] = [] := rfl
@[simp] theorem bs_cons (x : Nd) (L : List Nd) : bs (x :: L) = x.b :: bs L := rfl
@[simp] theorem bs_append (A B : List Nd) : bs (A ++ B) = bs A ++ bs B := List.map_append
@[simp] theorem bs_length (A : List Nd) : (bs A).length = A.length := List.length_map _

def Chain (w : World) : Nat → Option Nat → List Nd → Option Nat → Prop
  | _, _, [], _ => True
  | at_, pr, x :: r, nx => w.heap[x.p]? = some (.cells (ndCells at_ x (hd r nx) pr) 87 (0, 0)) ∧ Chain w (at_ + x.b.size) (some x.p) r nx

theorem hd_append (A B : List Nd) (nx : Option Nat) : hd (A ++ B) nx = hd A (hd B nx) := by cases A <;> rfl
theorem lst_append (A B : List Nd) (pr : Option Nat) : lst (A ++ B) pr = lst B (lst A pr) := by
  induction A generalizing pr with
  | nil => rfl
  | cons a A ih => exact ih _

theorem Chain.append {w : World} : ∀ {A B : List Nd} {at_ : Nat} {pr nx : Option Nat}, Chain w at_ pr (A ++ B) nx ↔ Chain w at_ pr A (hd B nx) ∧ Chain w (at_ + sz (bs A)) (lst A pr) B nx
  | [], B, at_, pr, nx => by simp [Chain, sz, lst]
  | a :: A, B, at_, pr, nx => by
    simp only [List.cons_append, Chain, hd_append, bs_cons, sz, lst]
    rw [Chain.append, and_assoc, Nat.add_assoc]

theorem Chain.keep {w w' : World} : ∀ {L : List Nd} {at_ : Nat} {pr nx : Option Nat}, Chain w at_ pr L nx → (∀ x ∈ L, w'.heap[x.p]? = w.heap[x.p]?) → Chain w' at_ pr L nx
  | [], _, _, _, _, _ => trivial
  | x :: r, _, _, _, h, hk => ⟨(hk x (by simp)).trans h.1, h.2.keep fun y hy => hk y (by simp [hy])⟩

/-- The chain's middle: one block. -/
theorem Chain.mid {w : World} {A B : List Nd} {x : Nd} {at_ : Nat} {pr nx : Option Nat} (h : Chain w at_ pr (A ++ x :: B) nx) :
    w.heap[x.p]? = some (.cells (ndCells (at_ + sz (bs A)) x (hd B nx) (lst A pr)) 87 (0, 0)) := (Chain.append.1 h).2.1

structure Ghost where
  s : Nat
  n : Nat
  L : List Nd
  ρ : Tags

structure Rep (g : Ghost) (S : St) (w : World) : Prop where
  map : S = bs g.L
  st : w.heap[g.s]? = some (.cells #[.int .i64 g.n, ptr (hd g.L none)] 89 (0, 0))
  ts : g.ρ g.s = (3, 0)
  fresh : ∀ k, w.heap.size ≤ k → (g.ρ k).1 = 0
  chain : Chain w 0 none g.L none
  tp : ∀ x ∈ g.L, g.ρ x.p = (1, (x.p : Int))
  nodup : (g.L.map Nd.p).Nodup
  wv : ∀ x ∈ g.L, SliceT g.ρ (2, (x.p : Int)) w 3 1 x.v (icells x.b.ws)

/-- What a call on a store leaves: only the store's own blocks have turned; the tags of what was there stand. -/
structure Step (g g' : Ghost) (w w' : World) : Prop where
  turn : Turn (fun k => (g.ρ k).1 ≠ 0) w w'
  tags : ∀ k, k < w.heap.size → g'.ρ k = g.ρ k
  s : g'.s = g.s
  n : g'.n = g.n
  ko : KeepsOthers w w'

theorem Step.refl (g : Ghost) (w : World) : Step g g w w := ⟨Turn.refl _ _, fun _ _ => rfl, rfl, rfl, KeepsOthers.refl _⟩
theorem Step.trans {g g' g'' : Ghost} {w w' w'' : World} (h : Step g g' w w') (k : Step g' g'' w' w'') : Step g g'' w w'' := by
  have hs := h.turn.size
  refine ⟨⟨k.turn.os.trans h.turn.os, k.turn.tape.trans h.turn.tape, k.turn.output.trans h.turn.output, Nat.le_trans hs k.turn.size, fun i hi ho => ?_⟩, fun i hi => (k.tags i (by omega)).trans (h.tags i hi), k.s.trans h.s, k.n.trans h.n, h.ko.trans k.ko⟩
  rw [k.turn.block i (by omega) (by rw [h.tags i hi]; exact ho)]
  exact h.turn.block i hi ho
theorem Step.drew {g g' : Ghost} {w w' : World} (h : Step g g' w w') : Step g g' w w'.drew := ⟨h.turn.drew, h.tags, h.s, h.n, h.ko.trans (KeepsOthers.drew _)⟩
theorem Step.alloc {g g' : Ghost} {w w' : World} (h : Step g g' w w') (o : Obj) : Step g g' w (w'.alloc o) := ⟨h.turn.alloc o, h.tags, h.s, h.n, h.ko.trans (KeepsOthers.alloc _ _)⟩

/-- Blocks from m to n - 1 get the tag t. -/
def retag (ρ : Tags) (m n : Nat) (t : Tag) : Tags := fun k => if m ≤ k ∧ k < n then t else ρ k
theorem retag_old (ρ : Tags) {m n : Nat} (t : Tag) {k : Nat} (h : k < m) : retag ρ m n t k = ρ k := by unfold retag; rw [if_neg (by omega)]
theorem retag_new (ρ : Tags) {m n : Nat} (t : Tag) {k : Nat} (h : m ≤ k) (h' : k < n) : retag ρ m n t k = t := by unfold retag; rw [if_pos ⟨h, h'⟩]

section
variable {g : Ghost} {S : St} {w w' : World}

theorem Rep.lt (h : Rep g S w) {k : Nat} (hk : (g.ρ k).1 ≠ 0) : k < w.heap.size := by
  rcases Nat.lt_or_ge k w.heap.size with h' | h'
  · exact h'
  · exact absurd (h.fresh k h') hk

theorem Rep.plt (h : Rep g S w) {x : Nd} (hx : x ∈ g.L) : x.p < w.heap.size := h.lt (by rw [h.tp x hx]; exact Nat.one_ne_zero)

/-- Nothing of the store's own has turned. -/
theorem Rep.keep {T : Nat → Prop} (h : Rep g S w) (ht : Turn T w w') (hT : ∀ k, k < w.heap.size → T k → (g.ρ k).1 = 0) : Rep g S w' := by
  have hb : ∀ k, k < w.heap.size → (g.ρ k).1 ≠ 0 → w'.heap[k]? = w.heap[k]? := fun k hk hr => ht.block k hk fun hh => hr (hT k hk hh)
  exact { map := h.map
          st := by rw [hb g.s (heap_lt h.st) (by rw [h.ts]; decide)]; exact h.st
          ts := h.ts
          fresh := fun k hk => h.fresh k (by have := ht.size; omega)
          chain := h.chain.keep fun x hx => hb x.p (h.plt hx) (by rw [h.tp x hx]; exact Nat.one_ne_zero)
          tp := h.tp, nodup := h.nodup
          wv := fun x hx => (h.wv x hx).keep (fun k hk hr => hb k hk (by rw [hr]; exact (by decide : (2 : Nat) ≠ 0))) (fun _ _ => rfl) }

theorem Rep.drew (h : Rep g S w) : Rep g S w.drew := h.keep (T := fun _ => False) ((Turn.refl _ _).drew) (fun _ _ h => h.elim)
theorem Rep.alloc (h : Rep g S w) (o : Obj) : Rep g S (w.alloc o) := h.keep (T := fun _ => False) ((Turn.refl _ _).alloc o) (fun _ _ h => h.elim)
theorem Rep.below {n₀ : Nat} (h : Rep g S w) (hb : Below n₀ w w') (hn : w.heap.size ≤ n₀) : Rep g S w' :=
  h.keep (T := fun _ => False) ⟨hb.os, hb.tape, hb.output, hb.size, fun k hk _ => hb.block k (by omega)⟩ (fun _ _ h => h.elim)
theorem Step.below {n₀ : Nat} (hb : Below n₀ w w') (hn : w.heap.size ≤ n₀) : Step g g w w' :=
  ⟨⟨hb.os, hb.tape, hb.output, hb.size, fun k hk _ => hb.block k (by omega)⟩, fun _ _ => rfl, rfl, rfl, ⟨hb.size, fun k o hk _ => (hb.block k (by have := heap_lt hk; omega)).trans hk⟩⟩

theorem SliceAt.cells_kept {w w' : World} {e : TypeId} {sz : Nat} {v : Value} {xs : List Value} (h : SliceAt w e sz v xs) (hc : ∀ (k : Nat) (o : Obj), w.heap[k]? = some o → o.isCells = true → w'.heap[k]? = some o) : SliceAt w' e sz v xs := by
  rcases h with h | ⟨g, off, n, cap, cur, rfl, hg, r⟩
  · exact .inl h
  · exact .inr ⟨g, off, n, cap, cur, rfl, hc g _ hg rfl, r⟩

/-- Whatever is cells lies as it lay. -/
theorem Rep.cells_kept (h : Rep g S w) (hz : w.heap.size ≤ w'.heap.size) (hc : ∀ (k : Nat) (o : Obj), w.heap[k]? = some o → o.isCells = true → w'.heap[k]? = some o) : Rep g S w' := by
  have hch : ∀ (L : List Nd) (at_ : Nat) (pr nx : Option Nat), Chain w at_ pr L nx → Chain w' at_ pr L nx := by
    intro L
    induction L with
    | nil => intro _ _ _ _; trivial
    | cons x L ih => intro at_ pr nx hh; exact ⟨hc _ _ hh.1 rfl, ih _ _ _ hh.2⟩
  exact { map := h.map, st := hc _ _ h.st rfl, ts := h.ts, fresh := fun k hk => h.fresh k (by omega), chain := hch _ _ _ _ h.chain, tp := h.tp, nodup := h.nodup
          wv := fun x hx => ⟨SliceAt.cells_kept (h.wv x hx).1 hc, (h.wv x hx).2⟩ }

theorem Rep.grown {row : Option Nat} (h : Rep g S w) (hg : w.grownBy w' row) (hr : ∀ r, row = some r → ∃ o : Obj, w.heap[r]? = some o ∧ o.isCells = false) : Rep g S w' := by
  refine h.cells_kept hg.size fun k o hk ho => ?_
  by_cases hrow : row = some k
  · obtain ⟨o', h1, h2⟩ := hr k hrow
    rw [hk] at h1; cases h1; rw [ho] at h2; cases h2
  · exact (hg.block k (heap_lt hk) (fun e => hrow e.symm)).trans hk

theorem Step.grown {g' : Ghost} {w2 : World} {row : Option Nat} (h : Step g g' w w') (hg : w'.grownBy w2 row) (hr : ∀ r, row = some r → w.heap.size ≤ r) : Step g g' w w2 := by
  have hk : ∀ k, k < w.heap.size → w2.heap[k]? = w'.heap[k]? := fun k hk => hg.block k (by have := h.turn.size; omega) (fun e => by have := hr k e.symm; omega)
  refine ⟨⟨hg.os.trans h.turn.os, hg.tape.trans h.turn.tape, hg.output.trans h.turn.output, Nat.le_trans h.turn.size hg.size, fun k hk' hs => (hk k hk').trans (h.turn.block k hk' hs)⟩, h.tags, h.s, h.n, ⟨Nat.le_trans h.ko.size hg.size, fun k o hk' ho => (hk k (heap_lt hk')).trans (h.ko.same k o hk' ho)⟩⟩

theorem Rep.mid {A B : List Nd} {x : Nd} (h : Rep g S w) (e : g.L = A ++ x :: B) : w.heap[x.p]? = some (.cells (ndCells (sz (bs A)) x (hd B none) (lst A none)) 87 (0, 0)) := by
  have := h.chain
  rw [e] at this
  have := this.mid
  rwa [Nat.zero_add] at this

theorem nd_cells {g : Nat} {at_ : Nat} {x : Nd} {nx pv : Option Nat} (h : w.heap[g]? = some (.cells (ndCells at_ x nx pv) 87 (0, 0))) :
    w.cell? ⟨g, 0, none⟩ = some (.int .i64 at_) ∧ w.cell? ⟨g, 1, none⟩ = some (.int .i64 x.b.size) ∧ w.cell? ⟨g, 2, none⟩ = some (.bool x.b.used) ∧ w.cell? ⟨g, 3, none⟩ = some x.v ∧ w.cell? ⟨g, 4, none⟩ = some (ptr nx) ∧ w.cell? ⟨g, 5, none⟩ = some (ptr pv) ∧ ∀ i, w.frozen? ⟨g, i, none⟩ = false :=
  ⟨cell_at h rfl, cell_at h rfl, cell_at h rfl, cell_at h rfl, cell_at h rfl, cell_at h rfl, fun _i => frozen_at h⟩

theorem Rep.st_cells (h : Rep g S w) : w.cell? ⟨g.s, 0, none⟩ = some (.int .i64 g.n) ∧ w.cell? ⟨g.s, 1, none⟩ = some (ptr (hd g.L none)) := ⟨cell_at h.st rfl, cell_at h.st rfl⟩
end
end Go.Sto
