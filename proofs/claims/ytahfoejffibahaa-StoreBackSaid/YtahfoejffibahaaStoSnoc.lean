/-
  A block behind a chain: what the stores of cells make of it.
-/
import Derived.Test.YtahfoejffibahaaStoRestPure
namespace Go.Sto
open Go.Own Go.RowKit

section
variable {g : Ghost} {w w2 : World} {B p : Nat} {v : Value} {b : Blk}

/-- The tags behind a new block: what is new from B on is its own. -/
def tagNew (ρ : Tags) (B p : Nat) (n : Nat) : Tags := fun k => if k = p then (1, (p : Int)) else if B ≤ k ∧ k < n then (2, (p : Int)) else ρ k

theorem tagNew_old {ρ : Tags} {B p n k : Nat} (hp : B ≤ p) (hk : k < B) : tagNew ρ B p n k = ρ k := by unfold tagNew; rw [if_neg (by omega), if_neg (by omega)]

def snocT (g : Ghost) (k : Nat) : Prop := match g.L.reverse with | [] => k = g.s | l :: _ => k = l.p

theorem Rep.snoc (h : Rep g (bs g.L) w) (hB : ∀ k, B ≤ k → g.ρ k = (0, 0)) (hBL : ∀ x ∈ g.L, x.p < B) (hBs : g.s < B) (hp : B ≤ p)
    (hnode : w.heap[p]? = some (.cells (ndCells (sz (bs g.L)) ⟨p, v, b⟩ none (lst g.L none)) 87 (0, 0)))
    (hv : SliceAt w 3 1 v (icells b.ws)) (hov : ∀ k, v.ownBlock = some k → B ≤ k ∧ k ≠ p)
    (h2 : (g.L = [] ∧ w2 = w.setCell ⟨g.s, 1, none⟩ (.pointer (some ⟨p, 0, none⟩))) ∨ ∃ D l, g.L = D ++ [l] ∧ w2 = w.setCell ⟨l.p, 4, none⟩ (.pointer (some ⟨p, 0, none⟩))) :
    ∃ g', g'.L = g.L ++ [⟨p, v, b⟩] ∧ g'.s = g.s ∧ g'.n = g.n ∧ Rep g' (bs g'.L) w2 ∧ (∀ k, k < B → g'.ρ k = g.ρ k) ∧ (∀ k, w2.heap.size ≤ k → g'.ρ k = (0, 0)) := by
  have hBh : B ≤ w.heap.size := Nat.le_trans hp (Nat.le_of_lt (heap_lt hnode))
  have hz : w2.heap.size = w.heap.size := by rcases h2 with ⟨-, rfl⟩ | ⟨D, l, -, rfl⟩ <;> simp
  have hpl := heap_lt hnode
  -- which block has turned
  obtain ⟨q, c, hq, hw2, hql⟩ : ∃ q c, q < B ∧ w2 = w.setCell ⟨q, c, none⟩ (.pointer (some ⟨p, 0, none⟩)) ∧ ((g.ρ q).1 = 3 ∨ (g.ρ q).1 = 1) := by
    rcases h2 with ⟨-, rfl⟩ | ⟨D, l, e, rfl⟩
    · exact ⟨g.s, 1, hBs, rfl, .inl (by rw [h.ts])⟩
    · exact ⟨l.p, 4, hBL l (by rw [e]; simp), rfl, .inr (by rw [h.tp l (by rw [e]; simp)])⟩
  have hne : ∀ k, k ≠ q → w2.heap[k]? = w.heap[k]? := fun k hk => by rw [hw2]; exact heap_setCell_ne _ (by exact hk)
  have hold : ∀ k, k < B → tagNew g.ρ B p w.heap.size k = g.ρ k := fun k hk => tagNew_old hp hk
  refine ⟨{ g with L := g.L ++ [⟨p, v, b⟩], ρ := tagNew g.ρ B p w.heap.size }, rfl, rfl, rfl, { map := rfl, st := ?_, ts := (hold _ hBs).trans h.ts, fresh := fun k hk => ?_, chain := ?_, tp := fun x hx => ?_, nodup := ?_, wv := fun x hx => ?_ }, hold, fun k hk => ?_⟩
  · show w2.heap[g.s]? = some (.cells #[.int .i64 g.n, ptr (hd (g.L ++ [⟨p, v, b⟩]) none)] _ _)
    rcases h2 with ⟨e, rfl⟩ | ⟨D, l, e, rfl⟩
    · rw [heap_setCell_self _ h.st, e]; rfl
    · have hs : g.s ≠ l.p := fun hh => by
        have h1 := h.ts
        rw [hh, h.tp l (by rw [e]; simp)] at h1
        cases h1
      rw [heap_setCell_ne _ (by exact hs)]
      have := h.st
      rw [e] at this ⊢
      rw [List.append_assoc, hd_append]
      rw [hd_append] at this
      cases D with
      | nil => exact this
      | cons z D => exact this
  · show (tagNew g.ρ B p w.heap.size k).1 = 0
    unfold tagNew
    rw [if_neg (by omega), if_neg (by omega), hB k (by omega)]
  · refine Chain.append.2 ⟨?_, ?_⟩
    · rcases h2 with ⟨e, rfl⟩ | ⟨D, l, e, rfl⟩
      · rw [e]; trivial
      · have hc := h.chain
        have hn := h.nodup
        rw [e] at hc hn ⊢
        obtain ⟨hD, hl⟩ := Chain.append.1 hc
        refine Chain.append.2 ⟨hD.keep fun y hy => heap_setCell_ne _ (by exact (ne_of_nodup hn).1 y hy), ?_⟩
        refine ⟨?_, trivial⟩
        rw [heap_setCell_self _ hl.1]
        rfl
    · rw [Nat.zero_add]
      refine ⟨?_, trivial⟩
      rw [hne p (by omega)]
      exact hnode
  · show tagNew g.ρ B p w.heap.size x.p = (1, (x.p : Int))
    rcases List.mem_append.1 hx with hx | hx
    · rw [hold _ (hBL x hx)]; exact h.tp x hx
    · simp only [List.mem_singleton] at hx
      subst hx
      unfold tagNew
      rw [if_pos rfl]
  · show ((g.L ++ ([⟨p, v, b⟩] : List Nd)).map Nd.p).Nodup
    rw [List.map_append, List.nodup_append]
    refine ⟨h.nodup, by simp, fun a ha b' hb' => ?_⟩
    obtain ⟨x, hx, rfl⟩ := List.mem_map.1 ha
    simp at hb'
    have := hBL x hx
    omega
  · rcases List.mem_append.1 hx with hx | hx
    · refine ⟨(h.wv x hx).1.keep fun k hk => hne k fun e => ?_, fun k hk => ?_⟩
      · have hr := (h.wv x hx).2 k hk
        rw [e] at hr
        rcases hql with q1 | q1
        · rw [hr] at q1; cases q1
        · rw [hr] at q1; cases q1
      · have hr := (h.wv x hx).2 k hk
        rcases Nat.lt_or_ge k B with hk' | hk'
        · exact (hold k hk').trans hr
        · rw [hB k hk'] at hr; cases hr
    · simp only [List.mem_singleton] at hx
      subst hx
      refine ⟨hv.keep fun k hk => hne k fun e => ?_, fun k hk => ?_⟩
      · have := (hov k hk).1; omega
      · have h1 := hov k hk
        have h2 := hv.lt k hk
        show tagNew g.ρ B p w.heap.size k = _
        unfold tagNew
        rw [if_neg h1.2, if_pos ⟨h1.1, h2⟩]
  · show tagNew g.ρ B p w.heap.size k = (0, 0)
    unfold tagNew
    rw [if_neg (by omega), if_neg (by omega), hB k (by omega)]
end
end Go.Sto
