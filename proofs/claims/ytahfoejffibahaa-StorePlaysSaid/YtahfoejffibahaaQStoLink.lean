/-
  The chain of a store's blocks is cut and joined: what the stores of cells make of it.
-/
import Derived.Test.YtahfoejffibahaaQStoModel
set_option linter.unusedVariables false

namespace Go.Sto
open Go.Own Go.RowKit

section
variable {g : Ghost} {S : St} {w w' : World}

/-- Only blocks of the chain have turned: what holds of them now is given. -/
theorem Rep.relink {L' : List Nd} {ρ' : Tags} (h : Rep g S w) (hko : KeepsOthers w w') (ht : Turn (fun k => (g.ρ k).1 = 1) w w') (hρ : ∀ k, k < w.heap.size → ρ' k = g.ρ k) (hf : ∀ k, w'.heap.size ≤ k → (ρ' k).1 = 0)
    (hst : hd L' none = hd g.L none) (hc : Chain w' 0 none L' none) (htp : ∀ x ∈ L', ρ' x.p = (1, (x.p : Int))) (hn : (L'.map Nd.p).Nodup)
    (hwv : ∀ x ∈ L', (∃ y ∈ g.L, y.p = x.p ∧ y.v = x.v ∧ y.b.ws = x.b.ws) ∨ (x.v = .slice none 0 0 ∧ x.b.ws = [])) :
    Rep { g with L := L', ρ := ρ' } (bs L') w' ∧ Step g { g with L := L', ρ := ρ' } w w' := by
  have hb : ∀ k, k < w.heap.size → (g.ρ k).1 ≠ 1 → w'.heap[k]? = w.heap[k]? := fun k hk hr => ht.block k hk hr
  refine ⟨{ map := rfl
            st := by
              show w'.heap[g.s]? = some (.cells #[.int .i64 g.n, ptr (hd L' none)] _ _)
              rw [hb g.s (heap_lt h.st) (by rw [h.ts]; decide), hst]; exact h.st
            ts := (hρ g.s (heap_lt h.st)).trans h.ts
            fresh := hf, chain := hc, tp := htp, nodup := hn
            wv := fun x hx => ?_ }, ht.mono (fun k _ hk => by rw [hk]; decide), hρ, rfl, rfl, hko⟩
  rcases hwv x hx with ⟨y, hy, e1, e2, e3⟩ | ⟨e1, e2⟩
  · have := h.wv y hy
    rw [e1, e2, e3] at this
    exact this.keep (fun k hk hr => hb k hk (by rw [hr]; exact (by decide : (2 : Nat) ≠ 1))) hρ
  · rw [e1, e2]; exact SliceT.nil _ _ _ _ _

theorem ne_of_nodup {A B : List Nd} {x : Nd} (hn : ((A ++ x :: B).map Nd.p).Nodup) : (∀ y ∈ A, y.p ≠ x.p) ∧ (∀ y ∈ B, y.p ≠ x.p) := by
  rw [List.map_append, List.map_cons] at hn
  have h := List.nodup_append.1 hn
  refine ⟨fun y hy e => h.2.2 _ (List.mem_map_of_mem hy) x.p (by simp) e, fun y hy e => ?_⟩
  have h2 := (List.nodup_cons.1 h.2.1).1
  exact h2 (e ▸ List.mem_map_of_mem hy)

theorem ne_hd {A B : List Nd} {y : Nd} (hn : ((A ++ B).map Nd.p).Nodup) (hy : y ∈ A) {k : Nat} (hk : hd B none = some k) : y.p ≠ k := by
  cases B with
  | nil => cases hk
  | cons z B =>
    cases hk
    exact (ne_of_nodup hn).1 y hy

/-- A block of other size, fill and words stands where x stood. -/
theorem Rep.cut {A B : List Nd} {x : Nd} (h : Rep g S w) (e : g.L = A ++ x :: B) (m : Nat) (hm : m ≤ x.b.size) (hko : KeepsOthers w w') (hz : w'.heap.size = w.heap.size + 1)
    (ht : Turn (fun k => k = x.p ∨ hd B none = some k) w w')
    (hx : w'.heap[x.p]? = some (.cells (ndCells (sz (bs A)) ⟨x.p, x.v, ⟨m, x.b.used, x.b.ws⟩⟩ (some w.heap.size) (lst A none)) 87 (0, 0)))
    (hr : w'.heap[w.heap.size]? = some (.cells (ndCells (sz (bs A) + m) ⟨w.heap.size, .slice none 0 0, hole (x.b.size - m)⟩ (hd B none) (some x.p)) 87 (0, 0)))
    (hy : ∀ y B', B = y :: B' → w'.heap[y.p]? = some (.cells (ndCells (sz (bs A) + x.b.size) y (hd B' none) (some w.heap.size)) 87 (0, 0))) :
    ∃ g', g'.L = A ++ ⟨x.p, x.v, ⟨m, x.b.used, x.b.ws⟩⟩ :: ⟨w.heap.size, .slice none 0 0, hole (x.b.size - m)⟩ :: B ∧ Rep g' (bs g'.L) w' ∧ Step g g' w w' := by
  have hn := h.nodup
  have hc := h.chain
  rw [e] at hn hc
  obtain ⟨hcA, -, hcB⟩ := Chain.append.1 hc
  rw [Nat.zero_add] at hcB
  obtain ⟨nA, nB⟩ := ne_of_nodup hn
  have hlt : ∀ y ∈ g.L, y.p < w.heap.size := fun y hy => h.plt hy
  have hAd : ∀ y ∈ A, hd B none ≠ some y.p := fun y hy hk => by
    have hn2 : (((A ++ [x]) ++ B).map Nd.p).Nodup := by simpa using hn
    exact ne_hd hn2 (y := y) (by simp [hy]) hk rfl
  have hL : ∀ y ∈ A ++ x :: B, y ∈ g.L := fun y hy => by rw [e]; exact hy
  refine ⟨{ g with L := A ++ ⟨x.p, x.v, ⟨m, x.b.used, x.b.ws⟩⟩ :: ⟨w.heap.size, .slice none 0 0, hole (x.b.size - m)⟩ :: B, ρ := retag g.ρ w.heap.size (w.heap.size + 1) (1, (w.heap.size : Int)) }, rfl,
    h.relink hko (ht.mono fun k hk hT => ?_) (fun k hk => retag_old _ _ hk) (fun k hk => ?_) ?_ ?_ (fun y hy => ?_) ?_ (fun y hy => ?_)⟩
  · rcases hT with rfl | hT
    · rw [h.tp x (hL x (by simp))]
    · cases B with
      | nil => cases hT
      | cons y B => cases hT; rw [h.tp y (hL y (by simp))]
  · rw [hz] at hk
    unfold retag
    rw [if_neg (by omega)]
    exact h.fresh k (by omega)
  · rw [e, hd_append, hd_append]; rfl
  · refine Chain.append.2 ⟨hcA.keep fun y hy => ht.block y.p (hlt y (hL y (by simp [hy]))) fun hT => ?_, ?_⟩
    · rcases hT with hT | hT
      · exact nA y hy hT
      · exact hAd y hy hT
    · rw [Nat.zero_add]
      refine ⟨hx, hr, ?_⟩
      show Chain w' (sz (bs A) + m + (x.b.size - m)) (some w.heap.size) B none
      rw [show sz (bs A) + m + (x.b.size - m) = sz (bs A) + x.b.size from by omega]
      cases B with
      | nil => trivial
      | cons y B =>
        refine ⟨hy y B rfl, hcB.2.keep fun z hz' => ht.block z.p (hlt z (hL z (by simp [hz']))) fun hT => ?_⟩
        rcases hT with hT | hT
        · exact nB z (by simp [hz']) hT
        · have hn2 : (((A ++ [x]) ++ y :: B).map Nd.p).Nodup := by simpa using hn
          have : y.p = z.p := by simpa [hd] using hT
          exact (ne_of_nodup hn2).2 z hz' this.symm
  · rcases List.mem_append.1 hy with hy | hy
    · rw [retag_old _ _ (hlt y (hL y (by simp [hy])))]; exact h.tp y (hL y (by simp [hy]))
    · rcases List.mem_cons.1 hy with rfl | hy
      · show retag g.ρ _ _ _ x.p = (1, (x.p : Int))
        rw [retag_old _ _ (hlt x (hL x (by simp)))]; exact h.tp x (hL x (by simp))
      · rcases List.mem_cons.1 hy with rfl | hy
        · exact retag_new _ _ (Nat.le_refl _) (Nat.lt_succ_self _)
        · rw [retag_old _ _ (hlt y (hL y (by simp [hy])))]; exact h.tp y (hL y (by simp [hy]))
  · have hfr : ∀ y ∈ A ++ x :: B, y.p ≠ w.heap.size := fun y hy he => by have := hlt y (hL y hy); omega
    have e1 : (A ++ (⟨x.p, x.v, ⟨m, x.b.used, x.b.ws⟩⟩ : Nd) :: ⟨w.heap.size, .slice none 0 0, hole (x.b.size - m)⟩ :: B).map Nd.p = A.map Nd.p ++ x.p :: w.heap.size :: B.map Nd.p := by simp
    rw [e1]
    have e2 : (A.map Nd.p ++ x.p :: w.heap.size :: B.map Nd.p).Perm (w.heap.size :: (A.map Nd.p ++ x.p :: B.map Nd.p)) := by
      have : A.map Nd.p ++ x.p :: w.heap.size :: B.map Nd.p = (A.map Nd.p ++ [x.p]) ++ w.heap.size :: B.map Nd.p := by simp
      rw [this]
      refine List.perm_middle.trans ?_
      simp
    rw [e2.nodup_iff, List.nodup_cons]
    refine ⟨fun hm => ?_, by simpa using hn⟩
    have hm2 : w.heap.size ∈ (A ++ x :: B).map Nd.p := by simpa using hm
    obtain ⟨y, hy, hp⟩ := List.mem_map.1 hm2
    exact hfr y hy hp
  · rcases List.mem_append.1 hy with hy | hy
    · exact .inl ⟨y, hL y (by simp [hy]), rfl, rfl, rfl⟩
    · rcases List.mem_cons.1 hy with rfl | hy
      · exact .inl ⟨x, hL x (by simp), rfl, rfl, rfl⟩
      · rcases List.mem_cons.1 hy with rfl | hy
        · exact .inr ⟨rfl, rfl⟩
        · exact .inl ⟨y, hL y (by simp [hy]), rfl, rfl, rfl⟩

/-- x is joined with the block behind it. -/
theorem Rep.join {A B : List Nd} {x y : Nd} (h : Rep g S w) (e : g.L = A ++ x :: y :: B) (hko : KeepsOthers w w') (hz : w'.heap.size = w.heap.size)
    (ht : Turn (fun k => k = x.p ∨ hd B none = some k) w w')
    (hx : w'.heap[x.p]? = some (.cells (ndCells (sz (bs A)) ⟨x.p, x.v, ⟨x.b.size + y.b.size, x.b.used, x.b.ws⟩⟩ (hd B none) (lst A none)) 87 (0, 0)))
    (hy : ∀ z B', B = z :: B' → w'.heap[z.p]? = some (.cells (ndCells (sz (bs A) + x.b.size + y.b.size) z (hd B' none) (some x.p)) 87 (0, 0))) :
    ∃ g', g'.L = A ++ ⟨x.p, x.v, ⟨x.b.size + y.b.size, x.b.used, x.b.ws⟩⟩ :: B ∧ Rep g' (bs g'.L) w' ∧ Step g g' w w' := by
  have hn := h.nodup
  have hc := h.chain
  rw [e] at hn hc
  obtain ⟨hcA, -, -, hcB⟩ := Chain.append.1 hc
  rw [Nat.zero_add] at hcB
  obtain ⟨nA, nB⟩ := ne_of_nodup hn
  have hlt : ∀ y ∈ g.L, y.p < w.heap.size := fun y hy => h.plt hy
  have hAd : ∀ z ∈ A, hd B none ≠ some z.p := fun z hz' hk => by
    have hn2 : (((A ++ [x, y]) ++ B).map Nd.p).Nodup := by simpa using hn
    exact ne_hd hn2 (y := z) (by simp [hz']) hk rfl
  have hL : ∀ z ∈ A ++ x :: y :: B, z ∈ g.L := fun y hy => by rw [e]; exact hy
  refine ⟨{ g with L := A ++ ⟨x.p, x.v, ⟨x.b.size + y.b.size, x.b.used, x.b.ws⟩⟩ :: B, ρ := g.ρ }, rfl,
    h.relink hko (ht.mono fun k hk hT => ?_) (fun k hk => rfl) (fun k hk => h.fresh k (by omega)) ?_ ?_ (fun z hz' => ?_) ?_ (fun z hz' => ?_)⟩
  · rcases hT with rfl | hT
    · rw [h.tp x (hL x (by simp))]
    · cases B with
      | nil => cases hT
      | cons z B => cases hT; rw [h.tp z (hL z (by simp))]
  · rw [e, hd_append, hd_append]; rfl
  · refine Chain.append.2 ⟨hcA.keep fun z hz' => ht.block z.p (hlt z (hL z (by simp [hz']))) fun hT => ?_, ?_⟩
    · rcases hT with hT | hT
      · exact nA z hz' hT
      · exact hAd z hz' hT
    · rw [Nat.zero_add]
      refine ⟨hx, ?_⟩
      show Chain w' (sz (bs A) + (x.b.size + y.b.size)) (some x.p) B none
      rw [← Nat.add_assoc]
      cases B with
      | nil => trivial
      | cons z B =>
        refine ⟨hy z B rfl, hcB.2.keep fun u hu => ht.block u.p (hlt u (hL u (by simp [hu]))) fun hT => ?_⟩
        rcases hT with hT | hT
        · exact nB u (by simp [hu]) hT
        · have hn2 : (((A ++ [x, y]) ++ z :: B).map Nd.p).Nodup := by simpa using hn
          have : z.p = u.p := by simpa [hd] using hT
          exact (ne_of_nodup hn2).2 u hu this.symm
  · rcases List.mem_append.1 hz' with hz' | hz'
    · exact h.tp z (hL z (by simp [hz']))
    · rcases List.mem_cons.1 hz' with rfl | hz'
      · exact h.tp x (hL x (by simp))
      · exact h.tp z (hL z (by simp [hz']))
  · have e1 : (A ++ (⟨x.p, x.v, ⟨x.b.size + y.b.size, x.b.used, x.b.ws⟩⟩ : Nd) :: B).map Nd.p = A.map Nd.p ++ x.p :: B.map Nd.p := by simp
    rw [e1]
    have e2 : ((A ++ x :: y :: B).map Nd.p) = (A.map Nd.p ++ x.p :: y.p :: B.map Nd.p) := by simp
    rw [e2] at hn
    have hs : (A.map Nd.p ++ x.p :: B.map Nd.p).Sublist (A.map Nd.p ++ x.p :: y.p :: B.map Nd.p) := by
      refine List.Sublist.append (List.Sublist.refl _) ?_
      exact (List.Sublist.cons _ (List.Sublist.refl _)).cons_cons _
    exact hn.sublist hs
  · rcases List.mem_append.1 hz' with hz' | hz'
    · exact .inl ⟨z, hL z (by simp [hz']), rfl, rfl, rfl⟩
    · rcases List.mem_cons.1 hz' with rfl | hz'
      · exact .inl ⟨x, hL x (by simp), rfl, rfl, rfl⟩
      · exact .inl ⟨z, hL z (by simp [hz']), rfl, rfl, rfl⟩

theorem Step.more {g1 g2 : Ghost} {w1 w2 : World} (h : Step g g1 w w1) (t : Turn (fun k => (g.ρ k).1 ≠ 0 ∨ w.heap.size ≤ k) w1 w2) (ht : ∀ k, k < w.heap.size → g2.ρ k = g1.ρ k) (hs : g2.s = g1.s) (hn : g2.n = g1.n) (hk : KeepsOthers w1 w2) : Step g g2 w w2 := by
  have hz := h.turn.size
  refine ⟨⟨t.os.trans h.turn.os, t.tape.trans h.turn.tape, t.output.trans h.turn.output, Nat.le_trans hz t.size, fun k hk ho => ?_⟩, fun k hk => (ht k hk).trans (h.tags k hk), hs.trans h.s, hn.trans h.n, h.ko.trans hk⟩
  rw [t.block k (by omega) (fun hh => by rcases hh with hh | hh; exact ho hh; omega)]
  exact h.turn.block k hk ho

/-- A block's fill and words are others; the words are in rows of their own. -/
theorem Rep.refill0 {A B : List Nd} {x : Nd} {w1 : World} (h : Rep g S w) (e : g.L = A ++ x :: B) (b : Blk) (hb : b.size = x.b.size) (v : Value) (t : Turn (fun k => k = x.p ∨ g.ρ k = (2, (x.p : Int)) ∨ (g.ρ k).1 = 0) w w1)
    (hx : w1.heap[x.p]? = some (.cells (ndCells (sz (bs A)) ⟨x.p, v, b⟩ (hd B none) (lst A none)) 87 (0, 0)))
    (hv : SliceAt w1 3 1 v (icells b.ws)) (hw : ∀ k, v.ownBlock = some k → w.heap.size ≤ k ∨ g.ρ k = (2, (x.p : Int))) :
    ∃ g', g'.L = A ++ ⟨x.p, v, b⟩ :: B ∧ Rep g' (bs g'.L) w1 ∧ (∀ k, k < w.heap.size → g'.ρ k = g.ρ k) ∧ g'.s = g.s ∧ g'.n = g.n := by
  have hn := h.nodup
  have hc := h.chain
  rw [e] at hn hc
  obtain ⟨hcA, -, hcB⟩ := Chain.append.1 hc
  rw [Nat.zero_add] at hcB
  obtain ⟨nA, nB⟩ := ne_of_nodup hn
  have hlt : ∀ y ∈ g.L, y.p < w.heap.size := fun y hy => h.plt hy
  have hL : ∀ y ∈ A ++ x :: B, y ∈ g.L := fun y hy => by rw [e]; exact hy
  have hxL := hL x (by simp)
  have hne : ∀ y ∈ A ++ x :: B, y.p ≠ x.p → w1.heap[y.p]? = w.heap[y.p]? := fun y hy hp => t.block y.p (hlt y (hL y hy)) fun hT => by
    rcases hT with hT | hT | hT
    · exact hp hT
    · rw [h.tp y (hL y hy)] at hT; cases hT
    · rw [h.tp y (hL y hy)] at hT; cases hT
  have old : ∀ k, k < w.heap.size → retag g.ρ w.heap.size w1.heap.size (2, (x.p : Int)) k = g.ρ k := fun k hk => retag_old _ _ hk
  refine ⟨{ g with L := A ++ ⟨x.p, v, b⟩ :: B, ρ := retag g.ρ w.heap.size w1.heap.size (2, (x.p : Int)) }, rfl, { map := rfl, st := ?_, ts := (old g.s (heap_lt h.st)).trans h.ts, fresh := fun k hk => ?_, chain := ?_, tp := fun y hy => ?_, nodup := ?_, wv := fun y hy => ?_ },
    old, rfl, rfl⟩
  · show w1.heap[g.s]? = some (.cells #[.int .i64 g.n, ptr (hd (A ++ ⟨x.p, v, b⟩ :: B) none)] _ _)
    rw [t.block g.s (heap_lt h.st) fun hT => by
      rcases hT with hT | hT | hT
      · have := h.ts; rw [hT, h.tp x hxL] at this; cases this
      · rw [h.ts] at hT; cases hT
      · rw [h.ts] at hT; cases hT]
    have := h.st
    rw [e, hd_append] at this
    rw [hd_append]; exact this
  · show (retag g.ρ _ _ _ k).1 = 0
    unfold retag
    rw [if_neg (by omega)]
    exact h.fresh k (by have := t.size; omega)
  · refine Chain.append.2 ⟨hcA.keep fun y hy => hne y (by simp [hy]) (nA y hy), ?_⟩
    rw [Nat.zero_add]
    refine ⟨hx, ?_⟩
    show Chain w1 (sz (bs A) + b.size) (some x.p) B none
    rw [hb]
    exact hcB.keep fun y hy => hne y (by simp [hy]) (nB y hy)
  · show retag g.ρ _ _ _ y.p = (1, (y.p : Int))
    rcases List.mem_append.1 hy with hy | hy
    · rw [old _ (hlt y (hL y (by simp [hy])))]; exact h.tp y (hL y (by simp [hy]))
    · rcases List.mem_cons.1 hy with rfl | hy
      · rw [old _ (hlt x hxL)]; exact h.tp x hxL
      · rw [old _ (hlt y (hL y (by simp [hy])))]; exact h.tp y (hL y (by simp [hy]))
  · simpa using hn
  · have keep : ∀ y ∈ A ++ x :: B, y.p ≠ x.p → SliceT (retag g.ρ w.heap.size w1.heap.size (2, (x.p : Int))) (2, (y.p : Int)) w1 3 1 y.v (icells y.b.ws) := fun y hy hp =>
      (h.wv y (hL y hy)).keep (fun k hk hr => t.block k hk fun hT => by
        rcases hT with hT | hT | hT
        · rw [hT, h.tp x hxL] at hr; cases hr
        · rw [hr] at hT
          have : (y.p : Int) = x.p := congrArg Prod.snd hT
          exact hp (by omega)
        · rw [hr] at hT; cases hT) old
    rcases List.mem_append.1 hy with hy | hy
    · exact keep y (by simp [hy]) (nA y hy)
    · rcases List.mem_cons.1 hy with rfl | hy
      · refine ⟨hv, fun k hk => ?_⟩
        show retag g.ρ _ _ _ k = _
        have hl := hv.lt k hk
        rcases hw k hk with hw | hw
        · exact retag_new _ _ hw hl
        · rcases Nat.lt_or_ge k w.heap.size with hk' | hk'
          · rw [old k hk']; exact hw
          · exact retag_new _ _ hk' hl
      · exact keep y (by simp [hy]) (nB y hy)

theorem Rep.refill {A B : List Nd} {x : Nd} {w1 : World} (h : Rep g S w) (e : g.L = A ++ x :: B) (b : Blk) (hb : b.size = x.b.size) (v : Value) (hko : KeepsOthers w w1) (t : Turn (fun k => k = x.p ∨ g.ρ k = (2, (x.p : Int))) w w1)
    (hx : w1.heap[x.p]? = some (.cells (ndCells (sz (bs A)) ⟨x.p, v, b⟩ (hd B none) (lst A none)) 87 (0, 0)))
    (hv : SliceAt w1 3 1 v (icells b.ws)) (hw : ∀ k, v.ownBlock = some k → w.heap.size ≤ k ∨ g.ρ k = (2, (x.p : Int))) :
    ∃ g', g'.L = A ++ ⟨x.p, v, b⟩ :: B ∧ Rep g' (bs g'.L) w1 ∧ Step g g' w w1 := by
  obtain ⟨g', e1, r1, e2, e3, e4⟩ := h.refill0 e b hb v (t.mono fun k _ hk => hk.elim .inl (fun h => .inr (.inl h))) hx hv hw
  refine ⟨g', e1, r1, (Step.refl g w).more (t.mono fun k hk hT => ?_) e2 e3 e4 hko⟩
  left
  rcases hT with rfl | hT
  · rw [h.tp x (by rw [e]; simp)]; exact Nat.one_ne_zero
  · rw [hT]; exact (by decide : (2 : Nat) ≠ 0)
end
end Go.Sto
