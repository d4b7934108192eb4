/-
  THE STORE AS A PLAIN LIST OF BLOCKS: what each call makes of it. No program in sight.
-/
import Derived.WalkKit
namespace Go.Sto

/-- A block: its words with the head, whether it is in use, and its words without the head, if it is. -/
structure Blk where
  size : Nat
  used : Bool
  ws : List Int

abbrev St := List Blk

def sz : St → Nat
  | [] => 0
  | b :: r => b.size + sz r

theorem sz_append (A B : St) : sz (A ++ B) = sz A + sz B := by
  induction A with
  | nil => simp [sz]
  | cons a A ih => simp [sz, ih]; omega

def need (k : Int) : Nat := max 2 ((k.toNat + 2) / 2 * 2)
def hole (m : Nat) : Blk := ⟨m, false, []⟩
def zeros (m : Nat) : List Int := List.replicate m 0
def resize (l : List Int) (m : Nat) : List Int := (l ++ zeros m).take m
def rest (size m : Nat) : St := if size = m then [] else [hole (size - m)]

/-- The first block that p holds of: its index. -/
def hit (p : Nat → Blk → Bool) : Nat → St → Option Nat
  | _, [] => none
  | at_, b :: r => if p at_ b then some 0 else (hit p (at_ + b.size) r).map (· + 1)

theorem hit_some {p : Nat → Blk → Bool} : ∀ {S : St} {a i : Nat}, hit p a S = some i → ∃ A x B, S = A ++ x :: B ∧ A.length = i ∧ p (a + sz A) x = true ∧ ∀ A' y B', A = A' ++ y :: B' → p (a + sz A') y = false
  | [], _, _, h => by cases h
  | b :: r, a, i, h => by
    unfold hit at h
    by_cases hb : p a b = true
    · rw [if_pos hb] at h
      cases h
      exact ⟨[], b, r, rfl, rfl, by simpa [sz] using hb, fun A' y B' e => by cases A' <;> cases e⟩
    · rw [if_neg hb] at h
      obtain ⟨j, hj, rfl⟩ := Option.map_eq_some_iff.1 h
      obtain ⟨A, x, B, rfl, rfl, hx, hA⟩ := hit_some hj
      refine ⟨b :: A, x, B, rfl, rfl, by simpa [sz, Nat.add_assoc] using hx, fun A' y B' e => ?_⟩
      cases A' with
      | nil => cases e; simpa [sz] using hb
      | cons c A' =>
        simp only [List.cons_append, List.cons.injEq] at e
        obtain ⟨rfl, rfl⟩ := e
        have := hA A' y B' rfl
        simpa [sz, Nat.add_assoc] using this

theorem hit_at {p : Nat → Blk → Bool} : ∀ {A : St} {a : Nat} {x : Blk} {B : St}, p (a + sz A) x = true → (∀ A' y B', A = A' ++ y :: B' → p (a + sz A') y = false) → hit p a (A ++ x :: B) = some A.length
  | [], a, x, B, hx, _ => by simp only [sz, Nat.add_zero] at hx; simp [hit, hx]
  | b :: A, a, x, B, hx, hA => by
    have h0 := hA [] b A rfl
    simp only [sz, Nat.add_zero] at h0
    have h1 : hit p (a + b.size) (A ++ x :: B) = some A.length := hit_at (by simpa [sz, Nat.add_assoc] using hx) (fun A' y B' e => by
      have := hA (b :: A') y B' (by rw [e]; rfl)
      simpa [sz, Nat.add_assoc] using this)
    simp [hit, h0, h1]

theorem hit_none {p : Nat → Blk → Bool} : ∀ {S : St} {a : Nat}, (∀ A y B, S = A ++ y :: B → p (a + sz A) y = false) → hit p a S = none
  | [], _, _ => rfl
  | b :: r, a, h => by
    have h0 := h [] b r rfl
    simp only [sz, Nat.add_zero] at h0
    have h1 : hit p (a + b.size) r = none := hit_none (fun A y B e => by
      have := h (b :: A) y B (by rw [e]; rfl)
      simpa [sz, Nat.add_assoc] using this)
    simp [hit, h0, h1]

theorem of_hit_none {p : Nat → Blk → Bool} {S : St} {a : Nat} (h : hit p a S = none) {A : St} {y : Blk} {B : St} (e : S = A ++ y :: B) : p (a + sz A) y = false := by
  induction S generalizing a A with
  | nil => cases A <;> cases e
  | cons b r ih =>
    unfold hit at h
    by_cases hb : p a b = true
    · rw [if_pos hb] at h; cases h
    · rw [if_neg hb] at h
      cases A with
      | nil => cases e; simpa [sz] using hb
      | cons c A =>
        simp only [List.cons_append, List.cons.injEq] at e
        obtain ⟨rfl, rfl⟩ := e
        have := ih (Option.map_eq_none_iff.1 h) rfl
        simpa [sz, Nat.add_assoc] using this

/-- Whether a block is the one in use with the address a. -/
def isAt (a : Int) (at_ : Nat) (b : Blk) : Bool := b.used && decide ((at_ : Int) + 1 = a)
/-- Whether a block is free and has m words. -/
def fits (m : Nat) (_ : Nat) (b : Blk) : Bool := !b.used && decide (m ≤ b.size)

def find (a : Int) (S : St) : Option Nat := hit (isAt a) 0 S

/-- A block before a store: joined with its first one where both are free. -/
def add (b : Blk) : St → St
  | [] => [b]
  | c :: r => if b.used = false ∧ c.used = false then hole (b.size + c.size) :: r else b :: c :: r
def fuse (S : St) : St := S.foldr add []

/-- Block i becomes one of m words in use; the rest of it is free. -/
def cutAt (S : St) (i m : Nat) (ws : List Int) : St :=
  match S.drop i with
  | [] => S
  | x :: B => S.take i ++ ⟨m, true, ws⟩ :: (rest x.size m ++ B)

def get (S : St) (k : Int) : St × Int × Int :=
  if k < 0 ∨ 32000 < k then (S, 0, 1) else
  match hit (fits (need k)) 0 S with
  | none => (S, 0, 2)
  | some i => (cutAt S i (need k) (zeros (need k - 1)), (sz (S.take i) : Int) + 1, 0)

def freeAt (S : St) (i : Nat) : St :=
  match S.drop i with
  | [] => S
  | x :: B => fuse (S.take i ++ hole x.size :: B)

def put (S : St) (a : Int) : St × Int :=
  match find a S with
  | none => (S, 180)
  | some i => (freeAt S i, 0)

/-- The block's words are others. -/
def setWords (S : St) (i : Nat) (ws : List Int) : St :=
  match S.drop i with
  | [] => S
  | x :: B => S.take i ++ ⟨x.size, x.used, ws⟩ :: B

def wordsAt (S : St) (i : Nat) : List Int :=
  match S.drop i with
  | [] => []
  | x :: _ => x.ws

def size (S : St) (a : Int) : Int × Int :=
  match find a S with
  | none => (0, 180)
  | some i => ((wordsAt S i).length, 0)

def write (S : St) (a i v : Int) : St × Int :=
  match find a S with
  | none => (S, 180)
  | some j => if i < 0 ∨ (wordsAt S j).length ≤ i then (S, 1) else (setWords S j ((wordsAt S j).set i.toNat v), 0)

def read (S : St) (a i : Int) : Int × Int :=
  match find a S with
  | none => (0, 180)
  | some j => if i < 0 ∨ (wordsAt S j).length ≤ i then (0, 1) else ((wordsAt S j).getD i.toNat 0, 0)

/-- Grow, where the block stays: it has 'have_' words, and B is behind them. -/
def grow (S : St) (a k : Int) : St × Int × Int :=
  match find a S with
  | none => (S, 0, 180)
  | some i =>
    if k < 0 ∨ 32000 < k then (S, 0, 1) else
    match S.drop i with
    | [] => (S, 0, 180)
    | x :: B =>
      let A := S.take i
      let m := need k
      let ws := resize x.ws (m - 1)
      let away : St × Int × Int :=
        match get S k with
        | (T, to, 0) => ((put (match find to T with | some j => setWords T j ws | none => T) a).1, to, 0)
        | (_, _, e) => (S, 0, e)
      if m ≤ x.size then (fuse (A ++ ⟨m, true, ws⟩ :: (rest x.size m ++ B)), a, 0) else
      match B with
      | [] => away
      | y :: C => if y.used = false ∧ m ≤ x.size + y.size then (fuse (A ++ ⟨m, true, ws⟩ :: (rest (x.size + y.size) m ++ C)), a, 0) else away

/-- What Blocks tells of the blocks from an address on. -/
def blocks : Nat → St → List (Nat × Nat × Bool)
  | _, [] => []
  | at_, b :: r => (at_, b.size, !b.used) :: blocks (at_ + b.size) r

def freeWords : St → Nat
  | [] => 0
  | b :: r => (if b.used then 0 else b.size) + freeWords r
def largest : St → Nat
  | [] => 0
  | b :: r => max (if b.used then 0 else b.size - 1) (largest r)

/-! ### What always holds -/

def Norm : St → Prop
  | a :: b :: r => ¬ (a.used = false ∧ b.used = false) ∧ Norm (b :: r)
  | _ => True

structure Good (b : Blk) : Prop where
  two : 2 ≤ b.size
  even : b.size % 2 = 0
  full : b.used = true → b.ws.length + 1 = b.size
  bare : b.used = false → b.ws = []
  wf : ∀ v ∈ b.ws, (Lit.int .i64 v).wf = true

structure Ok (n : Nat) (S : St) : Prop where
  lo : 4 ≤ n
  hi : n ≤ 32000
  even : n % 2 = 0
  sum : sz S = n
  good : ∀ b ∈ S, Good b
  norm : Norm S
end Go.Sto
