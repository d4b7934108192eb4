/-
  OWN: the words of this place's proofs on memory that a call owns: what turned between two worlds, slices and maps that are owned, and Go's append, lookup and map store over them. Of no program.
-/
import Derived.WalkKit
import Derived.Lib.Hide
import Derived.Maps.Keyed
import Derived.Lib.AppendStr
import Derived.Maps.AppendAt
set_option linter.unusedVariables false

namespace Go.Own
open Go.RowKit

abbrev Tag := Nat × Int
abbrev Tags := Nat → Tag

/-! ### What turned -/

/-- w' is w but for the blocks of S, and new ones. -/
structure Turn (S : Nat → Prop) (w w' : World) : Prop where
  os : w'.os = w.os
  tape : w'.tape = w.tape
  output : w'.output = w.output
  size : w.heap.size ≤ w'.heap.size
  block : ∀ k, k < w.heap.size → ¬ S k → w'.heap[k]? = w.heap[k]?

theorem Turn.refl (S : Nat → Prop) (w : World) : Turn S w w := ⟨rfl, rfl, rfl, Nat.le_refl _, fun _ _ _ => rfl⟩

theorem Turn.trans {S : Nat → Prop} {a b c : World} (h : Turn S a b) (k : Turn S b c) : Turn S a c :=
  ⟨k.os.trans h.os, k.tape.trans h.tape, k.output.trans h.output, Nat.le_trans h.size k.size,
   fun i hi hs => (k.block i (Nat.lt_of_lt_of_le hi h.size) hs).trans (h.block i hi hs)⟩

theorem Turn.mono {S T : Nat → Prop} {a b : World} (h : Turn S a b) (hst : ∀ k, k < a.heap.size → S k → T k) : Turn T a b :=
  ⟨h.os, h.tape, h.output, h.size, fun i hi hs => h.block i hi (fun c => hs (hst i hi c))⟩

theorem Turn.drew {S : Nat → Prop} {a b : World} (h : Turn S a b) : Turn S a b.drew := ⟨h.os, h.tape, h.output, h.size, h.block⟩
theorem Turn.drew_left {S : Nat → Prop} {a b : World} (h : Turn S a.drew b) : Turn S a b := ⟨h.os, h.tape, h.output, h.size, h.block⟩

theorem heap_alloc_lt (w : World) (o : Obj) (k : Nat) (h : k < w.heap.size) : (w.alloc o).heap[k]? = w.heap[k]? := Below.heap_alloc w o k h

theorem Turn.alloc {S : Nat → Prop} {a b : World} (h : Turn S a b) (o : Obj) : Turn S a (b.alloc o) :=
  h.trans ⟨rfl, rfl, rfl, by simp, fun k hk _ => heap_alloc_lt b o k hk⟩

theorem Turn.setCell {S : Nat → Prop} {a b : World} (h : Turn S a b) {p : Addr} (hp : p.block < a.heap.size → S p.block) (u : Value) : Turn S a (b.setCell p u) :=
  ⟨h.os, h.tape, h.output, by simpa using h.size, fun k hk hs => by
    rw [Below.heap_setCell b p u k (fun e => hs (e ▸ hp (e ▸ hk)))]; exact h.block k hk hs⟩

theorem Turn.grown {row : Option Nat} {a b : World} (h : a.grownBy b row) : Turn (fun k => some k = row) a b := ⟨h.os, h.tape, h.output, h.size, fun k hk hs => h.block k hk hs⟩

theorem Turn.below {B : Nat} {a b : World} (h : Turn (fun k => B ≤ k) a b) (hB : B ≤ a.heap.size) : Below B a b :=
  ⟨h.os, h.tape, h.output, h.size, fun k hk => h.block k (by omega) (by omega)⟩

theorem Turn.cell {S : Nat → Prop} {a b : World} (h : Turn S a b) {p : Addr} (hp : ¬ S p.block) (hlt : p.block < a.heap.size) : b.cell? p = a.cell? p := by
  simp [World.cell?, h.block p.block hlt hp]

theorem Turn.frozen {S : Nat → Prop} {a b : World} (h : Turn S a b) {p : Addr} (hp : ¬ S p.block) (hlt : p.block < a.heap.size) : b.frozen? p = a.frozen? p := by
  simp [World.frozen?, h.block p.block hlt hp]

/-! ### Blocks -/

theorem heap_lt {w : World} {k : Nat} {o : Obj} (h : w.heap[k]? = some o) : k < w.heap.size := (Array.getElem?_eq_some_iff.1 h).1

theorem cell_at {w : World} {g i : Nat} {cur : Array Value} {e : TypeId} {fr : Nat × Nat} {v : Value} (h : w.heap[g]? = some (.cells cur e fr)) (hi : cur[i]? = some v) : w.cell? ⟨g, i, none⟩ = some v := by
  simp [World.cell?, h, hi]

theorem frozen_at {w : World} {g i : Nat} {cur : Array Value} {e : TypeId} (h : w.heap[g]? = some (.cells cur e (0, 0))) : w.frozen? ⟨g, i, none⟩ = false := by
  simp [World.frozen?, h]

theorem heap_setCell_self {w : World} {g i : Nat} {cur : Array Value} {e : TypeId} {fr : Nat × Nat} (u : Value) (h : w.heap[g]? = some (.cells cur e fr)) :
    (w.setCell ⟨g, i, none⟩ u).heap[g]? = some (.cells (cur.setIfInBounds i u) e fr) := by
  have hlt := heap_lt h
  have hv : w.heap[g] = .cells cur e fr := (Array.getElem?_eq_some_iff.1 h).2
  unfold World.setCell
  rw [Array.getElem?_eq_getElem (by simpa using hlt), Array.getElem_modify]
  simp [hv]

theorem heap_setCell_ne {w : World} {p : Addr} {k : Nat} (u : Value) (h : k ≠ p.block) : (w.setCell p u).heap[k]? = w.heap[k]? := Below.heap_setCell w p u k h

/-! ### A slice that is owned: its block's cells from the offset on are 'xs' -/

def SliceAt (w : World) (e : TypeId) (sz : Nat) (v : Value) (xs : List Value) : Prop :=
  (v = .slice none 0 0 ∧ xs = []) ∨
  ∃ g off n cap cur, v = .slice (some ⟨g, off, none⟩) n cap ∧ w.heap[g]? = some (.cells cur e (0, 0)) ∧ xs.length = n * sz ∧ n ≤ cap ∧ cap ≤ maxLen ∧ off + cap * sz ≤ cur.size ∧ (cur.toList.drop off).take (n * sz) = xs

theorem SliceAt.nil (w : World) (e : TypeId) (sz : Nat) : SliceAt w e sz (.slice none 0 0) [] := .inl ⟨rfl, rfl⟩

theorem SliceAt.form {w : World} {e : TypeId} {sz : Nat} {v : Value} {xs : List Value} (h : SliceAt w e sz v xs) :
    ∃ a n cap, v = .slice a n cap ∧ xs.length = n * sz ∧ n ≤ cap ∧ cap ≤ maxLen ∧ (a = none → n = 0 ∧ cap = 0) := by
  rcases h with ⟨rfl, rfl⟩ | ⟨g, off, n, cap, cur, rfl, _, hl, hn, hm, _, _⟩
  · exact ⟨none, 0, 0, rfl, by simp, Nat.le_refl _, Nat.zero_le _, fun _ => ⟨rfl, rfl⟩⟩
  · exact ⟨_, n, cap, rfl, hl, hn, hm, by simp⟩

theorem SliceAt.keep {w w' : World} {e : TypeId} {sz : Nat} {v : Value} {xs : List Value} (h : SliceAt w e sz v xs) (hb : ∀ g, v.ownBlock = some g → w'.heap[g]? = w.heap[g]?) : SliceAt w' e sz v xs := by
  rcases h with h | ⟨g, off, n, cap, cur, rfl, hg, r⟩
  · exact .inl h
  · exact .inr ⟨g, off, n, cap, cur, rfl, by rw [hb g rfl]; exact hg, r⟩

theorem SliceAt.lt {w : World} {e : TypeId} {sz : Nat} {v : Value} {xs : List Value} (h : SliceAt w e sz v xs) : ∀ g, v.ownBlock = some g → g < w.heap.size := by
  rcases h with ⟨rfl, _⟩ | ⟨g, off, n, cap, cur, rfl, hg, r⟩
  · intro g hg; simp [Value.ownBlock] at hg
  · intro g' h'; simp [Value.ownBlock] at h'; subst h'; exact heap_lt hg

theorem SliceAt.turn {w w' : World} {S : Nat → Prop} {e : TypeId} {sz : Nat} {v : Value} {xs : List Value} (h : SliceAt w e sz v xs) (ht : Turn S w w') (hs : ∀ g, v.ownBlock = some g → ¬ S g) : SliceAt w' e sz v xs :=
  h.keep fun g hg => ht.block g (h.lt g hg) (hs g hg)

theorem SliceAt.cells {w : World} {e : TypeId} {sz : Nat} {g off n cap : Nat} {xs : List Value} (h : SliceAt w e sz (.slice (some ⟨g, off, none⟩) n cap) xs) :
    ∀ j u, xs[j]? = some u → w.cell? ⟨g, off + j, none⟩ = some u := by
  rcases h with ⟨h, _⟩ | ⟨g', off', n', cap', cur, hv, hg, hl, hn, hm, hs, hx⟩
  · cases h
  · cases hv
    intro j u hu
    refine cell_at hg ?_
    rw [← hx, List.getElem?_take] at hu
    split at hu
    · simpa using hu
    · cases hu

theorem SliceAt.frozen {w : World} {e : TypeId} {sz : Nat} {g off n cap : Nat} {xs : List Value} (h : SliceAt w e sz (.slice (some ⟨g, off, none⟩) n cap) xs) (i : Nat) :
    w.frozen? ⟨g, i, none⟩ = false := by
  rcases h with ⟨h, _⟩ | ⟨g', off', n', cap', cur, hv, hg, hl, hn, hm, hs, hx⟩
  · cases h
  · cases hv; exact frozen_at hg

/-- An owned slice, whole: v's address is none only where it is nil. -/
theorem SliceAt.addr {w : World} {e : TypeId} {sz : Nat} {a : Option Addr} {n cap : Nat} {xs : List Value} (h : SliceAt w e sz (.slice a n cap) xs) (hn : 0 < n) : ∃ g off, a = some ⟨g, off, none⟩ := by
  rcases h with ⟨h, _⟩ | ⟨g', off', n', cap', cur, hv, _⟩
  · cases h; omega
  · cases hv; exact ⟨_, _, rfl⟩

/-- s[:m]: the first m elements. -/
theorem SliceAt.take {w : World} {e : TypeId} {sz : Nat} {a : Option Addr} {n cap : Nat} {xs : List Value} (h : SliceAt w e sz (.slice a n cap) xs) (m : Nat) (hm : m ≤ n) : SliceAt w e sz (.slice a m cap) (xs.take (m * sz)) := by
  rcases h with ⟨h, rfl⟩ | ⟨g', off', n', cap', cur, hv, hg, hl, hn, hmx, hs, hx⟩
  · cases h
    obtain rfl : m = 0 := by omega
    exact .inl ⟨rfl, by simp⟩
  · cases hv
    have : m * sz ≤ n * sz := Nat.mul_le_mul_right _ hm
    exact .inr ⟨g', off', m, cap, cur, rfl, hg, by rw [List.length_take]; omega, by omega, hmx, hs, by rw [← hx, List.take_take]; congr 1; omega⟩

/-- s[m:]: what is behind the first m elements. -/
theorem SliceAt.drop {w : World} {e : TypeId} {sz : Nat} {g off n cap : Nat} {xs : List Value} (h : SliceAt w e sz (.slice (some ⟨g, off, none⟩) n cap) xs) (m : Nat) (hm : m ≤ n) : SliceAt w e sz (.slice (some ⟨g, off + m * sz, none⟩) (n - m) (cap - m)) (xs.drop (m * sz)) := by
  rcases h with ⟨h, rfl⟩ | ⟨g', off', n', cap', cur, hv, hg, hl, hn, hmx, hs, hx⟩
  · cases h
  · cases hv
    have h1 : m * sz ≤ n * sz := Nat.mul_le_mul_right _ hm
    have h2 : (n - m) * sz = n * sz - m * sz := Nat.sub_mul _ _ _
    have h3 : (cap - m) * sz = cap * sz - m * sz := Nat.sub_mul _ _ _
    have h4 : m * sz ≤ cap * sz := Nat.mul_le_mul_right _ (by omega)
    refine .inr ⟨g, off + m * sz, n - m, cap - m, cur, rfl, hg, by rw [List.length_drop]; omega, by omega, by omega, by omega, ?_⟩
    rw [← hx, List.drop_take, List.drop_drop, h2]

/-- s[m:] where nothing is left to grow into: Go keeps the address. -/
theorem SliceAt.empty {w : World} {e : TypeId} {sz : Nat} {g off n cap : Nat} {xs : List Value} (h : SliceAt w e sz (.slice (some ⟨g, off, none⟩) n cap) xs) : SliceAt w e sz (.slice (some ⟨g, off, none⟩) 0 0) [] := by
  rcases h with ⟨h, rfl⟩ | ⟨g', off', n', cap', cur, hv, hg, hl, hn, hmx, hs, hx⟩
  · cases h
  · cases hv
    exact .inr ⟨g, off, 0, 0, cur, rfl, hg, by simp, Nat.le_refl _, Nat.zero_le _, by omega, by simp⟩

/-- A new block, all of it. -/
theorem SliceAt.made {w : World} {e : TypeId} {sz : Nat} {g n : Nat} {cur : Array Value} (hg : w.heap[g]? = some (.cells cur e (0, 0))) (hs : cur.size = n * sz) (hm : n ≤ maxLen) : SliceAt w e sz (.slice (some ⟨g, 0, none⟩) n n) cur.toList :=
  .inr ⟨g, 0, n, n, cur, rfl, hg, by simp [hs], Nat.le_refl _, hm, by omega, by rw [← hs, List.drop_zero]; exact List.take_of_length_le (by simp)⟩

/-- One element is written. -/
theorem SliceAt.set {w : World} {e : TypeId} {sz : Nat} {g off n cap : Nat} {xs : List Value} (h : SliceAt w e sz (.slice (some ⟨g, off, none⟩) n cap) xs) (i : Nat) (u : Value) (hi : i < xs.length) :
    SliceAt (w.setCell ⟨g, off + i, none⟩ u) e sz (.slice (some ⟨g, off, none⟩) n cap) (xs.set i u) := by
  rcases h with ⟨h, rfl⟩ | ⟨g', off', n', cap', cur, hv, hg, hl, hn, hmx, hs, hx⟩
  · cases h
  · cases hv
    refine .inr ⟨g, off, n, cap, _, rfl, heap_setCell_self u hg, by simpa using hl, hn, hmx, by simpa using hs, ?_⟩
    rw [← hx]
    apply List.ext_getElem?
    intro j
    simp only [Array.toList_setIfInBounds, List.getElem?_take, List.getElem?_drop, List.getElem?_set, List.length_take, List.length_drop, Array.length_toList]
    have hc : off + i < cur.size := by
      have : n * sz ≤ cap * sz := Nat.mul_le_mul_right _ hn
      omega
    by_cases hj : j < n * sz
    · simp only [hj, if_true]
      by_cases hij : i = j
      · subst hij
        simp only [if_true, hc]
        rw [if_pos (by omega)]
      · rw [if_neg (by omega), if_neg hij]
    · simp only [hj, if_false]
      by_cases hij : i = j
      · exact absurd (hij ▸ (by omega : i < n * sz)) hj
      · rw [if_neg hij]

/-! ### append -/

/-- A type of elements: how many cells and bytes one has, and its zero value. -/
structure Elem (P : Program) (e : TypeId) (sz bytes : Nat) (z : Value) : Prop where
  ex : ∃ i, P.info? e = some i ∧ i.zero = some z ∧ i.size = sz ∧ i.bytes = bytes
  zs : z.cells.size = sz
  pos : 0 < sz

theorem Elem.mk' {P : Program} {e : TypeId} {sz bytes : Nat} {z : Value} (h : (P.info? e).map (fun i => (i.zero, i.size, i.bytes)) = some (some z, sz, bytes)) (hz : z.cells.size = sz) (hp : 0 < sz) : Elem P e sz bytes z :=
  ⟨info_parts h, hz, hp⟩

/-- What can be appended: m elements whose cells are 'news': a nil slice, a slice, a string. -/
def Src (w : World) (sz : Nat) (x : Value) (m : Nat) (news : List Value) : Prop :=
  (x = .slice none 0 0 ∧ m = 0 ∧ news = []) ∨
  (∃ a c, x = .slice (some a) m c ∧ news.length = m * sz ∧ ∀ j u, news[j]? = some u → w.cell? (a.add j) = some u) ∨
  (∃ s, x = .string s ∧ m = s.size ∧ news = Lib.strCells s ∧ sz = 1)

theorem Src.nil (w : World) (sz : Nat) : Src w sz (.slice none 0 0) 0 [] := .inl ⟨rfl, rfl, rfl⟩
theorem Src.slice {w : World} {sz : Nat} (a : Addr) (m c : Nat) (news : List Value) (hl : news.length = m * sz) (hn : ∀ j u, news[j]? = some u → w.cell? (a.add j) = some u) : Src w sz (.slice (some a) m c) m news :=
  .inr (.inl ⟨a, c, rfl, hl, hn⟩)
theorem Src.str {w : World} {sz : Nat} (s : ByteArray) (hs : sz = 1) : Src w sz (.string s) s.size (Lib.strCells s) := .inr (.inr ⟨s, rfl, rfl, rfl, hs⟩)

theorem Src.length {w : World} {sz : Nat} {x : Value} {m : Nat} {news : List Value} (h : Src w sz x m news) : news.length = m * sz := by
  rcases h with ⟨rfl, rfl, rfl⟩ | ⟨a, c, rfl, hl, hn⟩ | ⟨s, rfl, rfl, rfl, rfl⟩
  · simp
  · exact hl
  · simp [Lib.strCells_length]

theorem Src.of_slice {w : World} {e : TypeId} {sz : Nat} {a : Option Addr} {n cap : Nat} {xs : List Value} (h : SliceAt w e sz (.slice a n cap) xs) : Src w sz (.slice a n cap) n xs := by
  have h0 := h
  rcases h with ⟨h, rfl⟩ | ⟨g', off', n', cap', cur, hv, hg, hl, hn, hmx, hs, hx⟩
  · cases h; exact Src.nil _ _
  · cases hv
    refine Src.slice _ _ _ _ hl fun j u hu => ?_
    rw [Addr.add_lit]
    exact h0.cells j u hu

theorem Src.of_slice' {w : World} {e : TypeId} {sz : Nat} {v : Value} {xs : List Value} (h : SliceAt w e sz v xs) : ∃ m, Src w sz v m xs := by
  obtain ⟨a, n, cap, rfl, _⟩ := h.form
  exact ⟨n, Src.of_slice h⟩

/-- One new block that holds one element of one cell. -/
theorem Src.one {w : World} {sz : Nat} {g c : Nat} {x : Value} {e : TypeId} (hs : sz = 1) (h : w.heap[g]? = some (.cells #[x] e (0, 0))) : Src w sz (.slice (some ⟨g, 0, .none⟩) 1 c) 1 [x] := by
  refine Src.slice _ _ _ _ (by simp [hs]) fun j u hu => ?_
  rw [Addr.add_lit]
  refine cell_at h ?_
  simpa using hu

theorem Src.lenOf {P : Program} {w : World} {sz : Nat} {x : Value} {m : Nat} {news : List Value} (h : Src w sz x m news) (w' : World) : (Builtin.lenOf x).run P w' = .ok m w' := by
  rcases h with ⟨rfl, rfl, rfl⟩ | ⟨a, c, rfl, hl, hn⟩ | ⟨s, rfl, rfl, rfl, rfl⟩ <;> simp [Builtin.lenOf]

theorem Src.first {P : Program} {w : World} {sz : Nat} {x : Value} {m : Nat} {news : List Value} (h : Src w sz x m news) : (Builtin.firstCells sz m x).run P w = .ok news.toArray w := by
  rcases h with ⟨rfl, rfl, rfl⟩ | ⟨a, c, rfl, hl, hn⟩ | ⟨s, rfl, rfl, rfl, rfl⟩
  · simp [Builtin.firstCells]
  · exact run_firstCells_some (P := P) w sz m a m c news hl hn
  · exact Lib.run_firstCells_string w 1 s

theorem Src.drew {w : World} {sz : Nat} {x : Value} {m : Nat} {news : List Value} (h : Src w sz x m news) : Src w.drew sz x m news := by
  rcases h with ⟨rfl, rfl, rfl⟩ | ⟨a, c, rfl, hl, hn⟩ | ⟨s, rfl, rfl, rfl, rfl⟩
  · exact Src.nil _ _
  · exact Src.slice a m c news hl (by simpa using hn)
  · exact Src.str s rfl

/-- The second type that an append names is no integer's (that would be an append of a 'make'). -/
def NoInt (P : Program) (t : TypeId) : Prop := P.underlying t = some .string ∨ ∃ e, P.underlying t = some (.slice e)

section
variable {P : Program} (w : World)

theorem run_append (t u ty e : TypeId) (sz bytes : Nat) (z : Value) (ht : P.underlying t = some (.slice e)) (hu : NoInt P u) (E : Elem P e sz bytes z)
    (v : Value) (xs : List Value) (hv : SliceAt w e sz v xs) (x : Value) (m : Nat) (news : List Value) (hx : Src w sz x m news) (h1 : ∀ u ∈ news, u.oneCell' = true)
    (hbytes : (xs.length + news.length) * bytes ≤ 140737488355328 * sz) (h63 : xs.length + news.length ≤ 1152921504606846976) :
    ∃ v' w', (Builtin.append_ #[t, u] ty #[v, x]).run P w = .ok v' w' ∧ SliceAt w' e sz v' (xs ++ news) ∧ Turn (fun k => v.ownBlock = some k) w w' ∧
      (v'.ownBlock = v.ownBlock ∨ v'.ownBlock = some w.heap.size) ∧ (v' = .slice none 0 0 ↔ v = .slice none 0 0 ∧ m = 0) := by
  obtain ⟨⟨i, hi, hz, rfl, rfl⟩, hzs, hpos⟩ := E
  have hnl := hx.length
  have hlo : ∀ W : World, (Builtin.lenOf x).run P W = .ok m W := fun W => hx.lenOf W
  -- what the growing arm leaves
  have grown : ∀ (n old : Nat), xs.length = n * i.size → old < n + m → SliceAt (w.drew.alloc (.cells (xs.toArray ++ news.toArray ++ Builtin.zeroCells z.cells (grownCap w (n + m) old e - (n + m))) e)) e i.size
        (.slice (some ⟨w.heap.size, 0, none⟩) (n + m) (grownCap w (n + m) old e)) (xs ++ news) := by
    intro n old hn ho
    have hsz : (xs ++ news).length = (n + m) * i.size := by rw [List.length_append, hn, hnl, Nat.add_mul]
    have hge := grownCap_ge w (n + m) old e
    have hnm : n + m ≤ maxLen := by
      have : n + m ≤ (n + m) * i.size := Nat.le_mul_of_pos_right _ hpos
      rw [← hsz, List.length_append] at this
      unfold maxLen; omega
    have hcm : grownCap w (n + m) old e ≤ maxLen := grownCap_le_maxLen w (n + m) old e hnm
    refine .inr ⟨w.heap.size, 0, n + m, _, _, rfl, heap_alloc_new w.drew _, hsz, hge, hcm, ?_, ?_⟩
    · simp only [Array.size_append, List.size_toArray, size_zeroCells, hzs, hn, hnl, ← Nat.add_mul, Nat.zero_add]
      exact Nat.le_of_eq (by congr 1; omega)
    · simp only [Array.toList_append, List.append_assoc, List.drop_zero]
      rw [← List.append_assoc, ← hsz]
      exact List.take_left
  have turned : ∀ o : Obj, Turn (fun k => v.ownBlock = some k) w (w.drew.alloc o) := fun o => ⟨rfl, rfl, rfl, by simp, fun k hk _ => heap_alloc_lt w.drew _ k hk⟩
  have hmb : ∀ n, xs.length = n * i.size → (n + m) * i.bytes ≤ 140737488355328 := by
    intro n hn
    rw [hn, hnl, ← Nat.add_mul, Nat.mul_right_comm, Nat.mul_comm 140737488355328] at hbytes
    rw [Nat.mul_comm _ i.size] at hbytes
    exact Nat.le_of_mul_le_mul_left hbytes hpos
  have h63' : ∀ n, xs.length = n * i.size → n + m ≤ 1152921504606846976 := by
    intro n hn
    have : n + m ≤ (n + m) * i.size := Nat.le_mul_of_pos_right _ hpos
    rw [Nat.add_mul, ← hn, ← hnl] at this
    omega
  have hff := hx.drew.first (P := P)
  have hff0 := hx.first (P := P)
  rcases hv with ⟨rfl, rfl⟩ | ⟨g, off, n, cap, cur, rfl, hg, hl, hn, hm, hs, hxs⟩
  · by_cases hm : m = 0
    · subst hm
      obtain rfl : news = [] := List.eq_nil_of_length_eq_zero (by simpa using hnl)
      refine ⟨.slice none 0 0, w, ?_, SliceAt.nil w e i.size, Turn.refl _ _, Or.inl rfl, by simp⟩
      rcases hu with hu | ⟨e', hu⟩ <;> simp [Builtin.append_, run_underlying ht, run_underlying hu, sizeOf, typeInfo, hi, hlo, hff0]
    · have hb := hmb 0 (by simp)
      have h6 := h63' 0 (by simp)
      have hg := grown 0 0 (by simp) (by omega)
      simp only [Nat.zero_add] at hb h6 hg
      have h63'' : ¬ (9223372036854775807 < (m : Int)) := by omega
      have h48' : ¬ (281474976710656 < Builtin.nextslicecap m 0 * i.bytes) := by rw [nextslicecap_zero (by omega)]; omega
      refine ⟨_, _, ?_, hg, turned _, Or.inr rfl, by simp [hm]⟩
      rcases hu with hu | ⟨e', hu⟩ <;> simp [Builtin.append_, run_underlying ht, run_underlying hu, sizeOf, typeInfo, hi, hlo, hff, hm, h63'', h48', zeroValue, hz, run_firstCells_none, newRow, grownCap, Question.forced]
  · by_cases hroom : n + m ≤ cap
    · have hfit : off + n * i.size + 0 + news.length ≤ cur.size := by
        have : (n + m) * i.size ≤ cap * i.size := Nat.mul_le_mul_right _ hroom
        rw [Nat.add_mul] at this
        omega
      have hst := run_storeCells_at P g (off + n * i.size) e news 0 cur w hg (by omega) h1
      have e0 : (⟨g, off, none⟩ : Addr).add (n * i.size) = ⟨g, off + n * i.size, none⟩ := Addr.add_lit _ _ _
      simp only [Nat.add_zero] at hst
      refine ⟨.slice (some ⟨g, off, none⟩) (n + m) cap, w.setRow g (cur.toList.take (off + n * i.size) ++ news ++ cur.toList.drop (off + n * i.size + news.length)).toArray, ?_, ?_, ?_, Or.inl rfl, by simp⟩
      · rcases hu with hu | ⟨e', hu⟩ <;> simp [Builtin.append_, run_underlying ht, run_underlying hu, sizeOf, typeInfo, hi, hlo, hff0, hroom, e0, hst]
      · refine .inr ⟨g, off, n + m, cap, _, rfl, setRow_heap w g cur _ e _ hg, by rw [List.length_append, hl, hnl, Nat.add_mul], hroom, hm, ?_, ?_⟩
        · simp only [List.size_toArray, List.length_append, List.length_take, List.length_drop, Array.length_toList]
          omega
        · apply List.ext_getElem?
          intro j
          have hxl : xs.length = n * i.size := hl
          simp only [List.getElem?_take, List.getElem?_drop, List.getElem?_append, List.length_append, List.length_take, Array.length_toList, Nat.add_mul]
          rw [Nat.min_eq_left (by omega : off + n * i.size ≤ cur.size)]
          by_cases hj : j < n * i.size
          · rw [if_pos (by omega), if_pos (by omega), if_pos (by omega), if_pos (by omega), if_pos (by omega)]
            have : ((cur.toList.drop off).take (n * i.size))[j]? = xs[j]? := by rw [hxs]
            rw [List.getElem?_take, if_pos hj, List.getElem?_drop] at this
            exact this
          · by_cases hj2 : j < n * i.size + m * i.size
            · rw [if_pos hj2, if_pos (by omega), if_neg (by omega), if_neg (by omega)]
              congr 1; omega
            · rw [if_neg hj2, if_neg (by omega)]
              rw [List.getElem?_eq_none (by omega)]
      · exact ⟨rfl, rfl, rfl, by simp [World.setRow], fun k hk hne => setRow_other w g k _ (fun e => hne (by simp [Value.ownBlock, e]))⟩
    · have hb := hmb n hl
      have h6 := h63' n hl
      have h63'' : ¬ (9223372036854775807 < ((n : Int) + (m : Int))) := by omega
      have h48' : ¬ (281474976710656 < Builtin.nextslicecap (n + m) cap * i.bytes) := by have := growslice_fits (bytes := i.bytes) (by omega : cap < n + m) hb; omega
      have hG := grown n cap hl (by omega)
      have hx0 : SliceAt w e i.size (.slice (some ⟨g, off, none⟩) n cap) xs := .inr ⟨g, off, n, cap, cur, rfl, hg, hl, hn, hm, hs, hxs⟩
      have hfo := run_firstCells_some (P := P) w.drew i.size n ⟨g, off, none⟩ n cap xs hl (fun j u hj => by rw [Addr.add_lit]; simpa using hx0.cells j u hj)
      refine ⟨_, _, ?_, hG, turned _, Or.inr rfl, by simp⟩
      rcases hu with hu | ⟨e', hu⟩ <;> (simp [Builtin.append_, run_underlying ht, run_underlying hu, sizeOf, typeInfo, hi, hlo, hff, hfo, hroom, h63'', h48', zeroValue, hz, newRow, grownCap, Question.forced]; (try (congr 2; apply Array.ext'; simp [List.append_assoc])))

theorem wpList_append {ops : Array Oper} {rest : List Oper} {o : Oper} {a : Act} {Q : Exit → Act → World → Prop} (hgd : o.guard = none) (s x : Operand) (t u : TypeId)
    (ho : o.op = .call { callee := .builtin .append, args := #[s, x], argTypes := #[t, u] })
    (e : TypeId) (sz bytes : Nat) (z : Value) (ht : P.underlying t = some (.slice e)) (hu : NoInt P u) (E : Elem P e sz bytes z)
    (v : Value) (xs : List Value) (hs : a.eval s = v) (hv : SliceAt w e sz v xs) (xv : Value) (m : Nat) (news : List Value) (hxe : a.eval x = xv) (hx : Src w sz xv m news) (h1 : ∀ u ∈ news, u.oneCell' = true)
    (hbytes : (xs.length + news.length) * bytes ≤ 140737488355328 * sz) (h63 : xs.length + news.length ≤ 1152921504606846976)
    (h : ∀ v' w', SliceAt w' e sz v' (xs ++ news) → Turn (fun k => v.ownBlock = some k) w w' → (v'.ownBlock = v.ownBlock ∨ v'.ownBlock = some w.heap.size) → (v' = .slice none 0 0 ↔ v = .slice none 0 0 ∧ m = 0) → wpList P ops Q rest (a.put o.dst v') w') :
    wpList P ops Q (o :: rest) a w := by
  refine wpList_plain hgd fun K hK => ?_
  obtain ⟨v', w', hr, h2, h3, h4, h5⟩ := run_append (P := P) w t u o.type e sz bytes z ht hu E v xs hv xv m news hx h1 hbytes h63
  unfold Oper.wp execOp
  simp only [ho, resolve, invoke, builtin, Sem.run_bind, Sem.run_pure, Result.andThen_ok, List.map_toArray, List.map_cons, List.map_nil, hs, hxe, hr]
  exact hK _ _ (h v' w' h2 h3 h4 h5)
end

theorem wf_i64 {x : Int} (h0 : -4611686018427387904 ≤ x) (h1 : x ≤ 4611686018427387904) : (Lit.int .i64 x).wf = true := by
  have a : IntKind.i64.min = -9223372036854775808 := by rfl
  have b : IntKind.i64.max = 9223372036854775807 := by rfl
  unfold Lit.wf
  rw [Bool.and_eq_true, decide_eq_true_eq, decide_eq_true_eq, a, b]
  omega

#print axioms wpList_append
end Go.Own
