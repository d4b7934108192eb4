/-
  How a kernel lies in memory: its own block of six cells, its maps, each task's and each packet's block, each queue; which of the heap's blocks are its own (tags).
-/
import Derived.Test.YtcfegaclbkggpaaRndModel
import Derived.Test.YtcfegaclbkggpaaOwnMapR
import Derived.RangeFuncCalls
import Derived.Test.YtcfegaclbkggpaaRows
namespace Go.Rnd
open Go.Own Go.RowKit

def SliceT (ρ : Tags) (t : Tag) (w : World) (e : TypeId) (sz : Nat) (v : Value) (xs : List Value) : Prop := SliceAt w e sz v xs ∧ ∀ b, v.ownBlock = some b → ρ b = t

theorem SliceT.keep {ρ ρ' : Tags} {t : Tag} {w w' : World} {e : TypeId} {sz : Nat} {v : Value} {xs : List Value} (h : SliceT ρ t w e sz v xs)
    (hb : ∀ k, k < w.heap.size → ρ k = t → w'.heap[k]? = w.heap[k]?) (hr : ∀ k, k < w.heap.size → ρ' k = ρ k) : SliceT ρ' t w' e sz v xs :=
  ⟨h.1.keep fun k hk => hb k (h.1.lt k hk) (h.2 k hk), fun k hk => (hr k (h.1.lt k hk)).trans (h.2 k hk)⟩
theorem SliceT.nil (ρ : Tags) (t : Tag) (w : World) (e : TypeId) (sz : Nat) : SliceT ρ t w e sz (.slice none 0 0) [] := ⟨SliceAt.nil w e sz, fun b hb => by simp [Value.ownBlock] at hb⟩

abbrev pt (b : Nat) : Value := .pointer (some ⟨b, 0, none⟩)

structure Gh where
  k : Nat
  mt : Nat
  md : Nat
  mp : Nat
  tb : Nat → Nat
  pb : Nat → Nat
  ρ : Tags

def tmap (n : Nat) (tb : Nat → Nat) : Int → Option Value := fun k => if 1 ≤ k ∧ k ≤ (n : Int) then some (pt (tb k.toNat)) else none
theorem tmap_in {n : Nat} {tb : Nat → Nat} {i : Nat} (h : 1 ≤ i) (h' : i ≤ n) : tmap n tb i = some (pt (tb i)) := by
  unfold tmap; rw [if_pos (by omega)]; rfl
theorem tmap_out {n : Nat} {tb : Nat → Nat} {i : Int} (h : ¬ (1 ≤ i ∧ i ≤ (n : Int))) : tmap n tb i = none := if_neg h
theorem tmap_some {n : Nat} {tb : Nat → Nat} {k : Int} {v : Value} (h : tmap n tb k = some v) : ∃ i : Nat, k = i ∧ 1 ≤ i ∧ i ≤ n ∧ v = pt (tb i) := by
  unfold tmap at h
  split at h
  · rename_i hk
    cases h
    exact ⟨k.toNat, by omega, by omega, by omega, rfl⟩
  · cases h
theorem tmap_add (n : Nat) (tb : Nat → Nat) (b : Nat) : upd (tmap n tb) ((n + 1 : Nat) : Int) (some (pt b)) = tmap (n + 1) (updN tb (n + 1) b) := by
  funext k
  by_cases hk : k = ((n + 1 : Nat) : Int)
  · subst hk
    rw [upd_self, tmap_in (by omega) (by omega), updN_self]
  · rw [upd_ne _ _ hk]
    unfold tmap
    by_cases h1 : 1 ≤ k ∧ k ≤ (n : Int)
    · rw [if_pos h1, if_pos (by omega), updN_ne _ _ (by omega)]
    · rw [if_neg h1, if_neg (by omega)]

def tCells (i : Nat) (x : TK) (v : Value) : Array Value := #[.int .i64 i, .int .i64 x.pri, .bool false, .bool x.wt, .int .i64 0, .int .i64 0, .slice none 0 0, v]
def pCells (p : Nat) (x : PK) (ty : Int) (ow : Nat) : Array Value := #[.int .i64 p, .int .i64 ty, .int .i64 0, .int .i64 ow, .int .i64 x.at_, .int .i64 x.frm, .int .i64 x.wth]
def kCells (g : Gh) (K : KS) (mv : Value) : Array Value := #[.map (some g.mt), .map (some g.md), .map (some g.mp), .int .i64 K.m, mv, .int .i64 K.c]
def qv (pb : Nat → Nat) (q : List Nat) : List Value := q.map fun p => pt (pb p)

structure Rep (g : Gh) (K : KS) (w : World) : Prop where
  kb : ∃ mv mvs, w.heap[g.k]? = some (.cells (kCells g K mv) 43 (0, 0)) ∧ SliceT g.ρ (2, 0) w 86 4 mv mvs ∧ mvs.length = 4 * K.v
  tk : g.ρ g.k = (1, 0)
  tmt : g.ρ g.mt = (1, 1)
  tmp : g.ρ g.mp = (1, 3)
  fresh : ∀ k, w.heap.size ≤ k → (g.ρ k).1 = 0
  tm : MapS w g.mt (tmap K.n g.tb)
  pm : MapS w g.mp (tmap K.m g.pb)
  tt : ∀ i, 1 ≤ i → i ≤ K.n → g.ρ (g.tb i) = (3, (i : Int))
  tp : ∀ p, 1 ≤ p → p ≤ K.m → g.ρ (g.pb p) = (4, (p : Int))
  task : ∀ i, 1 ≤ i → i ≤ K.n → ∃ v, w.heap[g.tb i]? = some (.cells (tCells i (K.ts i) v) 60 (0, 0)) ∧ SliceT g.ρ (5, (i : Int)) w 64 1 v (qv g.pb (K.ts i).q)
  pack : ∀ p, 1 ≤ p → p ≤ K.m → ∃ ty ow, w.heap[g.pb p]? = some (.cells (pCells p (K.ps p) ty ow) 71 (0, 0))
  qok : ∀ i, 1 ≤ i → i ≤ K.n → ∀ p ∈ (K.ts i).q, 1 ≤ p ∧ p ≤ K.m

/-- What a call on a kernel leaves: only the kernel's own blocks have turned; the tags of what was there stand. -/
structure Step (g g' : Gh) (w w' : World) : Prop where
  turn : Turn (fun k => (g.ρ k).1 ≠ 0) w w'
  tags : ∀ k, k < w.heap.size → g'.ρ k = g.ρ k
  k : g'.k = g.k

theorem Step.refl (g : Gh) (w : World) : Step g g w w := ⟨Turn.refl _ _, fun _ _ => rfl, rfl⟩
theorem Step.trans {g g' g'' : Gh} {w w' w'' : World} (h : Step g g' w w') (k : Step g' g'' w' w'') : Step g g'' w w'' := by
  have hs := h.turn.size
  refine ⟨⟨k.turn.os.trans h.turn.os, k.turn.tape.trans h.turn.tape, k.turn.output.trans h.turn.output, Nat.le_trans hs k.turn.size, fun i hi ho => ?_⟩, fun i hi => (k.tags i (by omega)).trans (h.tags i hi), k.k.trans h.k⟩
  rw [k.turn.block i (by omega) (by rw [h.tags i hi]; exact ho)]
  exact h.turn.block i hi ho
/-- Only new blocks. -/
theorem Step.fresh {g : Gh} {w w' : World} (h : Turn (fun _ => False) w w') : Step g g w w' := ⟨h.mono fun _ _ hh => hh.elim, fun _ _ => rfl, rfl⟩

/-- Blocks from m to n - 1 get the tag t. -/
def retag (ρ : Tags) (m n : Nat) (t : Tag) : Tags := fun k => if m ≤ k ∧ k < n then t else ρ k
theorem retag_old (ρ : Tags) {m n : Nat} (t : Tag) {k : Nat} (h : k < m) : retag ρ m n t k = ρ k := by unfold retag; rw [if_neg (by omega)]
theorem retag_new (ρ : Tags) {m n : Nat} (t : Tag) {k : Nat} (h : m ≤ k) (h' : k < n) : retag ρ m n t k = t := by unfold retag; rw [if_pos ⟨h, h'⟩]
theorem retag_fresh {ρ : Tags} {m n : Nat} {t : Tag} {k : Nat} (h : n ≤ k) : retag ρ m n t k = ρ k := by unfold retag; rw [if_neg (by omega)]

section
variable {g : Gh} {K : KS} {w w' : World}

theorem Rep.lt (h : Rep g K w) {k : Nat} (hk : (g.ρ k).1 ≠ 0) : k < w.heap.size := by
  rcases Nat.lt_or_ge k w.heap.size with h' | h'
  · exact h'
  · exact absurd (h.fresh k h') hk
theorem Rep.klt (h : Rep g K w) : g.k < w.heap.size := h.lt (by rw [h.tk]; decide)
theorem Rep.tlt (h : Rep g K w) {i : Nat} (h1 : 1 ≤ i) (h2 : i ≤ K.n) : g.tb i < w.heap.size := h.lt (by rw [h.tt i h1 h2]; simp)
theorem Rep.plt (h : Rep g K w) {i : Nat} (h1 : 1 ≤ i) (h2 : i ≤ K.m) : g.pb i < w.heap.size := h.lt (by rw [h.tp i h1 h2]; simp)

/-- Nothing of the kernel's own has turned. -/
theorem Rep.keep {T : Nat → Prop} (h : Rep g K w) (ht : Turn T w w') (hT : ∀ k, k < w.heap.size → T k → (g.ρ k).1 = 0) : Rep g K w' := by
  have hb : ∀ k, k < w.heap.size → (g.ρ k).1 ≠ 0 → w'.heap[k]? = w.heap[k]? := fun k hk hr => ht.block k hk fun hh => hr (hT k hk hh)
  exact { kb := by
            obtain ⟨mv, mvs, h1, h2, h3⟩ := h.kb
            exact ⟨mv, mvs, by rw [hb g.k h.klt (by rw [h.tk]; decide)]; exact h1, h2.keep (fun k hk hr => hb k hk (by rw [hr]; decide)) (fun _ _ => rfl), h3⟩
          tk := h.tk, tmt := h.tmt, tmp := h.tmp
          fresh := fun k hk => h.fresh k (by have := ht.size; omega)
          tm := h.tm.keep (hb _ h.tm.lt (by rw [h.tmt]; decide))
          pm := h.pm.keep (hb _ h.pm.lt (by rw [h.tmp]; decide))
          tt := h.tt, tp := h.tp
          task := fun i h1 h2 => by
            obtain ⟨v, a, b⟩ := h.task i h1 h2
            exact ⟨v, by rw [hb _ (h.tlt h1 h2) (by rw [h.tt i h1 h2]; simp)]; exact a, b.keep (fun k hk hr => hb k hk (by rw [hr]; simp)) (fun _ _ => rfl)⟩
          pack := fun p h1 h2 => by
            obtain ⟨ty, ow, a⟩ := h.pack p h1 h2
            exact ⟨ty, ow, by rw [hb _ (h.plt h1 h2) (by rw [h.tp p h1 h2]; simp)]; exact a⟩
          qok := h.qok }

theorem Rep.new (h : Rep g K w) (ht : Turn (fun _ => False) w w') : Rep g K w' := h.keep ht (fun _ _ hh => hh.elim)
theorem Rep.drew (h : Rep g K w) : Rep g K w.drew := h.new ((Turn.refl _ _).drew)
theorem Rep.alloc (h : Rep g K w) (o : Obj) : Rep g K (w.alloc o) := h.new ((Turn.refl _ _).alloc o)

/-- One task, with its queue, has turned. -/
theorem Rep.set_task {ρ' : Tags} {i : Nat} {x : TK} {v : Value} (h : Rep g K w) (h1 : 1 ≤ i) (h2 : i ≤ K.n) (ht : Turn (fun k => k = g.tb i ∨ g.ρ k = (5, (i : Int))) w w')
    (hr : ∀ k, k < w.heap.size → ρ' k = g.ρ k) (hf : ∀ k, w'.heap.size ≤ k → (ρ' k).1 = 0)
    (hc : w'.heap[g.tb i]? = some (.cells (tCells i x v) 60 (0, 0))) (hv : SliceT ρ' (5, (i : Int)) w' 64 1 v (qv g.pb x.q)) (hq : ∀ p ∈ x.q, 1 ≤ p ∧ p ≤ K.m) :
    Rep { g with ρ := ρ' } { K with ts := updN K.ts i x } w' := by
  have hti := h.tt i h1 h2
  have hb : ∀ k, k < w.heap.size → g.ρ k ≠ (3, (i : Int)) → g.ρ k ≠ (5, (i : Int)) → w'.heap[k]? = w.heap[k]? := fun k hk ha hb => ht.block k hk fun hh => by
    rcases hh with rfl | hh
    · exact ha hti
    · exact hb hh
  exact { kb := by
            obtain ⟨mv, mvs, a, b, c⟩ := h.kb
            exact ⟨mv, mvs, by rw [hb g.k h.klt (by rw [h.tk]; simp) (by rw [h.tk]; simp)]; exact a, b.keep (fun k hk hr => hb k hk (by rw [hr]; simp) (by rw [hr]; simp)) hr, c⟩
          tk := (hr _ h.klt).trans h.tk, tmt := (hr _ h.tm.lt).trans h.tmt, tmp := (hr _ h.pm.lt).trans h.tmp
          fresh := hf
          tm := h.tm.keep (hb _ h.tm.lt (by rw [h.tmt]; simp) (by rw [h.tmt]; simp))
          pm := h.pm.keep (hb _ h.pm.lt (by rw [h.tmp]; simp) (by rw [h.tmp]; simp))
          tt := fun j j1 j2 => (hr _ (h.tlt j1 j2)).trans (h.tt j j1 j2)
          tp := fun j j1 j2 => (hr _ (h.plt j1 j2)).trans (h.tp j j1 j2)
          task := fun j j1 j2 => by
            by_cases hj : j = i
            · subst hj
              exact ⟨v, by simpa using hc, by simpa using hv⟩
            · obtain ⟨v, a, b⟩ := h.task j j1 j2
              have hne : (j : Int) ≠ i := by omega
              simp only [updN_ne _ _ hj]
              exact ⟨v, by rw [hb _ (h.tlt j1 j2) (by rw [h.tt j j1 j2]; simp [hne]) (by rw [h.tt j j1 j2]; simp)]; exact a, b.keep (fun k hk hr => hb k hk (by rw [hr]; simp) (by rw [hr]; simp [hne])) hr⟩
          pack := fun p j1 j2 => by
            obtain ⟨ty, ow, a⟩ := h.pack p j1 j2
            exact ⟨ty, ow, by rw [hb _ (h.plt j1 j2) (by rw [h.tp p j1 j2]; simp) (by rw [h.tp p j1 j2]; simp)]; exact a⟩
          qok := fun j j1 j2 => by
            by_cases hj : j = i
            · subst hj
              simpa using hq
            · simp only [updN_ne _ _ hj]
              exact h.qok j j1 j2 }

/-- One packet has turned. -/
theorem Rep.set_pack {p : Nat} {x : PK} {ty : Int} {ow : Nat} (h : Rep g K w) (h1 : 1 ≤ p) (h2 : p ≤ K.m) (ht : Turn (fun k => k = g.pb p) w w')
    (hs : w'.heap.size = w.heap.size) (hc : w'.heap[g.pb p]? = some (.cells (pCells p x ty ow) 71 (0, 0))) :
    Rep g { K with ps := updN K.ps p x } w' := by
  have hti := h.tp p h1 h2
  have hb : ∀ k, k < w.heap.size → g.ρ k ≠ (4, (p : Int)) → w'.heap[k]? = w.heap[k]? := fun k hk ha => ht.block k hk fun hh => by
    subst hh
    exact ha hti
  exact { kb := by
            obtain ⟨mv, mvs, a, b, c⟩ := h.kb
            exact ⟨mv, mvs, by rw [hb g.k h.klt (by rw [h.tk]; simp)]; exact a, b.keep (fun k hk hr => hb k hk (by rw [hr]; simp)) (fun _ _ => rfl), c⟩
          tk := h.tk, tmt := h.tmt, tmp := h.tmp
          fresh := fun k hk => h.fresh k (by omega)
          tm := h.tm.keep (hb _ h.tm.lt (by rw [h.tmt]; simp))
          pm := h.pm.keep (hb _ h.pm.lt (by rw [h.tmp]; simp))
          tt := h.tt, tp := h.tp
          task := fun j j1 j2 => by
            obtain ⟨v, a, b⟩ := h.task j j1 j2
            exact ⟨v, by rw [hb _ (h.tlt j1 j2) (by rw [h.tt j j1 j2]; simp)]; exact a, b.keep (fun k hk hr => hb k hk (by rw [hr]; simp)) (fun _ _ => rfl)⟩
          pack := fun j j1 j2 => by
            by_cases hj : j = p
            · subst hj
              exact ⟨ty, ow, by simpa using hc⟩
            · obtain ⟨ty, ow, a⟩ := h.pack j j1 j2
              have hne : (j : Int) ≠ p := by omega
              simp only [updN_ne _ _ hj]
              exact ⟨ty, ow, by rw [hb _ (h.plt j1 j2) (by rw [h.tp j j1 j2]; simp [hne])]; exact a⟩
          qok := h.qok }

/-- The kernel's own block, and the row of the moves, have turned. -/
theorem Rep.set_kern {ρ' : Tags} {mv : Value} {mvs : List Value} {c v : Nat} (h : Rep g K w) (ht : Turn (fun k => k = g.k ∨ g.ρ k = (2, 0)) w w')
    (hr : ∀ k, k < w.heap.size → ρ' k = g.ρ k) (hf : ∀ k, w'.heap.size ≤ k → (ρ' k).1 = 0)
    (hc : w'.heap[g.k]? = some (.cells (kCells g { K with c := c, v := v } mv) 43 (0, 0))) (hv : SliceT ρ' (2, 0) w' 86 4 mv mvs) (hl : mvs.length = 4 * v) :
    Rep { g with ρ := ρ' } { K with c := c, v := v } w' := by
  have hb : ∀ k, k < w.heap.size → g.ρ k ≠ (1, 0) → g.ρ k ≠ (2, 0) → w'.heap[k]? = w.heap[k]? := fun k hk ha hb => ht.block k hk fun hh => by
    rcases hh with rfl | hh
    · exact ha h.tk
    · exact hb hh
  exact { kb := ⟨mv, mvs, hc, hv, hl⟩
          tk := (hr _ h.klt).trans h.tk, tmt := (hr _ h.tm.lt).trans h.tmt, tmp := (hr _ h.pm.lt).trans h.tmp
          fresh := hf
          tm := h.tm.keep (hb _ h.tm.lt (by rw [h.tmt]; simp) (by rw [h.tmt]; simp))
          pm := h.pm.keep (hb _ h.pm.lt (by rw [h.tmp]; simp) (by rw [h.tmp]; simp))
          tt := fun j j1 j2 => (hr _ (h.tlt j1 j2)).trans (h.tt j j1 j2)
          tp := fun j j1 j2 => (hr _ (h.plt j1 j2)).trans (h.tp j j1 j2)
          task := fun j j1 j2 => by
            obtain ⟨v, a, b⟩ := h.task j j1 j2
            exact ⟨v, by rw [hb _ (h.tlt j1 j2) (by rw [h.tt j j1 j2]; simp) (by rw [h.tt j j1 j2]; simp)]; exact a, b.keep (fun k hk hr => hb k hk (by rw [hr]; simp) (by rw [hr]; simp)) hr⟩
          pack := fun p j1 j2 => by
            obtain ⟨ty, ow, a⟩ := h.pack p j1 j2
            exact ⟨ty, ow, by rw [hb _ (h.plt j1 j2) (by rw [h.tp p j1 j2]; simp) (by rw [h.tp p j1 j2]; simp)]; exact a⟩
          qok := h.qok }
end
end Go.Rnd
