/-
  Restore, as a plain function of the bytes: no walk.
-/
import Derived.Test.YtahfoejffibahaaQStoBlk
namespace Go.Sto
open Go.RowKit

/-- The blocks out of bytes, as long as words are left. -/
def blocksIn : Nat → Option Bool → Int → List Int → Except Int (St × List Int)
  | 0, _, _, _ => .error 0
  | f + 1, pv, left, l =>
    if left ≤ 0 then .ok ([], l) else
    match parse pv left l with
    | .error e => .error e
    | .ok (size, used, ws, r) =>
      match blocksIn f (some used) (left - size) r with
      | .error e => .error e
      | .ok (S, r') => .ok (⟨size.toNat, used, ws⟩ :: S, r')

/-- Blocks ahead of what came. -/
def cont (A : St) : Except Int (St × List Int) → Except Int (St × List Int)
  | .error e => .error e
  | .ok (S, r) => .ok (A ++ S, r)
theorem cont_cont (A B : St) (x : Except Int (St × List Int)) : cont A (cont B x) = cont (A ++ B) x := by
  cases x with
  | error e => rfl
  | ok p => obtain ⟨S, r⟩ := p; simp [cont]
theorem cont_nil (x : Except Int (St × List Int)) : cont [] x = x := by
  cases x with
  | error e => rfl
  | ok p => rfl

def restore (l : List Int) : Except Int (Int × St) :=
  if l.length < 8 then .error 7 else
  if ¬ (4 ≤ dec (l.take 8) ∧ dec (l.take 8) ≤ 32000 ∧ dec (l.take 8) % 2 = 0) then .error 1 else
  match blocksIn ((dec (l.take 8)).toNat + 1) none (dec (l.take 8)) (l.drop 8) with
  | .error e => .error e
  | .ok (S, r) => if r = [] then .ok (dec (l.take 8), S) else .error 3

theorem dec_wf_aux (l : List Int) (x : Int) : -9223372036854775808 ≤ x ∧ x ≤ 9223372036854775807 → -9223372036854775808 ≤ l.foldl (fun v c => wrap64 (v * 256 + c)) x ∧ l.foldl (fun v c => wrap64 (v * 256 + c)) x ≤ 9223372036854775807 := by
  induction l generalizing x with
  | nil => exact id
  | cons c l ih =>
    intro _
    refine ih _ ?_
    show -9223372036854775808 ≤ wrap64 (x * 256 + c) ∧ wrap64 (x * 256 + c) ≤ 9223372036854775807
    unfold wrap64
    omega
theorem dec_bounds (l : List Int) : -9223372036854775808 ≤ dec l ∧ dec l ≤ 9223372036854775807 := dec_wf_aux l 0 (by omega)

theorem lit_wf {x : Int} (h : -9223372036854775808 ≤ x ∧ x ≤ 9223372036854775807) : (Lit.int .i64 x).wf = true := by
  unfold Lit.wf
  rw [Bool.and_eq_true, decide_eq_true_eq, decide_eq_true_eq]
  exact h

theorem nums_wf (c : Nat) (l : List Int) : ∀ v ∈ nums c l, (Lit.int .i64 v).wf = true := by
  intro v hv
  obtain ⟨j, -, rfl⟩ := List.mem_map.1 hv
  exact lit_wf (dec_bounds _)

theorem parse_ok {pv : Option Bool} {left : Int} {l : List Int} {size : Int} {used : Bool} {ws r : List Int} (h : parse pv left l = .ok (size, used, ws, r)) :
    2 ≤ size ∧ size % 2 = 0 ∧ size ≤ left ∧ Good ⟨size.toNat, used, ws⟩ ∧ (used = false → pv ≠ some false) ∧ r.length + 8 ≤ l.length := by
  unfold parse at h
  split at h
  · cases h
  · rename_i hl
    split at h
    · cases h
    · rename_i hs
      split at h
      · cases h
      · rename_i hl1
        split at h
        · cases h
        · rename_i hf
          have hs' : 2 ≤ dec (l.take 8) ∧ dec (l.take 8) % 2 = 0 ∧ dec (l.take 8) ≤ left := ⟨Int.not_lt.1 fun q => hs (.inl q), Decidable.not_not.1 fun q => hs (.inr (.inl q)), Int.not_lt.1 fun q => hs (.inr (.inr q))⟩
          split at h
          · split at h
            · cases h
            · simp only [Except.ok.injEq, Prod.mk.injEq] at h
              obtain ⟨rfl, rfl, rfl, rfl⟩ := h
              refine ⟨hs'.1, hs'.2.1, hs'.2.2, ⟨by show 2 ≤ Int.toNat _; omega, by show Int.toNat _ % 2 = 0; omega, fun _ => ?_, (by intro q; cases q), nums_wf _ _⟩, (by intro q; cases q), by simp only [List.length_drop]; omega⟩
              show (nums _ _).length + 1 = (dec (l.take 8)).toNat
              rw [nums_length]
              omega
          · rename_i hf1
            simp only [Except.ok.injEq, Prod.mk.injEq] at h
            obtain ⟨rfl, rfl, rfl, rfl⟩ := h
            refine ⟨hs'.1, hs'.2.1, hs'.2.2, ⟨by show 2 ≤ Int.toNat _; omega, by show Int.toNat _ % 2 = 0; omega, (by intro q; cases q), fun _ => rfl, fun v hv => by cases hv⟩, fun _ q => hf (.inr (.inr ⟨hf1, q⟩)), by simp only [List.length_drop]; omega⟩

theorem parse_err {pv : Option Bool} {left : Int} {l : List Int} (h : parse pv left l = .error 0) : False := by
  unfold parse at h
  split at h
  · cases h
  · split at h
    · cases h
    · split at h
      · cases h
      · split at h
        · cases h
        · split at h
          · split at h <;> cases h
          · cases h

theorem blocksIn_ok : ∀ {f : Nat} {pv : Option Bool} {left : Int} {l : List Int} {S : St} {r : List Int}, blocksIn f pv left l = .ok (S, r) → 0 ≤ left → (sz S : Int) = left ∧ (∀ b ∈ S, Good b) ∧ Norm S ∧ (∀ b R, S = b :: R → b.used = false → pv ≠ some false)
  | 0, _, _, _, _, _, h, _ => by cases h
  | f + 1, pv, left, l, S, r, h, h0 => by
    unfold blocksIn at h
    split at h
    · simp only [Except.ok.injEq, Prod.mk.injEq] at h
      obtain ⟨rfl, rfl⟩ := h
      exact ⟨by simp [sz]; omega, fun b hb => (by cases hb), trivial, fun b R e => by cases e⟩
    · split at h
      · cases h
      · rename_i size used ws r1 hp
        obtain ⟨p1, p2, p3, p4, p5, -⟩ := parse_ok hp
        split at h
        · cases h
        · rename_i S' r' hb
          simp only [Except.ok.injEq, Prod.mk.injEq] at h
          obtain ⟨rfl, rfl⟩ := h
          obtain ⟨i1, i2, i3, i4⟩ := blocksIn_ok hb (by omega)
          refine ⟨by simp only [sz]; omega, fun b hb => ?_, norm_cons.2 ⟨fun b R e hh => ?_, i3⟩, fun b R e hu => ?_⟩
          · rcases List.mem_cons.1 hb with rfl | hb
            · exact p4
            · exact i2 b hb
          · have := i4 b R e hh.2
            have h1 : used = false := hh.1
            rw [h1] at this
            exact this rfl
          · cases e; exact p5 hu

theorem restore_ok {l : List Int} {n : Int} {S : St} (h : restore l = .ok (n, S)) : 4 ≤ n ∧ n ≤ 32000 ∧ Ok n.toNat S := by
  unfold restore at h
  split at h
  · cases h
  · split at h
    · cases h
    · rename_i hv
      have hv' := Decidable.not_not.1 hv
      split at h
      · cases h
      · rename_i S' r hb
        split at h
        · simp only [Except.ok.injEq, Prod.mk.injEq] at h
          obtain ⟨rfl, rfl⟩ := h
          obtain ⟨i1, i2, i3, -⟩ := blocksIn_ok hb (by omega)
          exact ⟨hv'.1, hv'.2.1, by omega, by omega, by omega, by omega, i2, i3⟩
        · cases h
end Go.Sto

/-
  A block behind a chain: what the stores of cells make of it.
-/
namespace Go.Sto
open Go.Own Go.RowKit

section
variable {g : Ghost} {w w2 : World} {B p : Nat} {v : Value} {b : Blk}

/-- The tags behind a new block: what is new from B on is its own. -/
def tagNew (ρ : Tags) (B p : Nat) (n : Nat) : Tags := fun k => if k = p then (1, (p : Int)) else if B ≤ k ∧ k < n then (2, (p : Int)) else ρ k

theorem tagNew_old {ρ : Tags} {B p n k : Nat} (hp : B ≤ p) (hk : k < B) : tagNew ρ B p n k = ρ k := by unfold tagNew; rw [if_neg (by omega), if_neg (by omega)]

def snocT (g : Ghost) (k : Nat) : Prop := match g.L.reverse with | [] => k = g.s | l :: _ => k = l.p

theorem Rep.snoc (h : Rep g (bs g.L) w) (hB : ∀ k, B ≤ k → g.ρ k = (0, 0)) (hBL : ∀ x ∈ g.L, x.p < B) (hBs : g.s < B) (hp : B ≤ p)
    (hnode : w.heap[p]? = some (.cells (ndCells (sz (bs g.L)) ⟨p, v, b⟩ none (lst g.L none)) 87 (0, 0)))
    (hv : SliceAt w 3 1 v (icells b.ws)) (hov : ∀ k, v.ownBlock = some k → B ≤ k ∧ k ≠ p)
    (h2 : (g.L = [] ∧ w2 = w.setCell ⟨g.s, 1, none⟩ (.pointer (some ⟨p, 0, none⟩))) ∨ ∃ D l, g.L = D ++ [l] ∧ w2 = w.setCell ⟨l.p, 4, none⟩ (.pointer (some ⟨p, 0, none⟩))) :
    ∃ g', g'.L = g.L ++ [⟨p, v, b⟩] ∧ g'.s = g.s ∧ g'.n = g.n ∧ Rep g' (bs g'.L) w2 ∧ (∀ k, k < B → g'.ρ k = g.ρ k) ∧ (∀ k, w2.heap.size ≤ k → g'.ρ k = (0, 0)) := by
  have hBh : B ≤ w.heap.size := Nat.le_trans hp (Nat.le_of_lt (heap_lt hnode))
  have hz : w2.heap.size = w.heap.size := by rcases h2 with ⟨-, rfl⟩ | ⟨D, l, -, rfl⟩ <;> simp
  have hpl := heap_lt hnode
  -- which block has turned
  obtain ⟨q, c, hq, hw2, hql⟩ : ∃ q c, q < B ∧ w2 = w.setCell ⟨q, c, none⟩ (.pointer (some ⟨p, 0, none⟩)) ∧ ((g.ρ q).1 = 3 ∨ (g.ρ q).1 = 1) := by
    rcases h2 with ⟨-, rfl⟩ | ⟨D, l, e, rfl⟩
    · exact ⟨g.s, 1, hBs, rfl, .inl (by rw [h.ts])⟩
    · exact ⟨l.p, 4, hBL l (by rw [e]; simp), rfl, .inr (by rw [h.tp l (by rw [e]; simp)])⟩
  have hne : ∀ k, k ≠ q → w2.heap[k]? = w.heap[k]? := fun k hk => by rw [hw2]; exact heap_setCell_ne _ (by exact hk)
  have hold : ∀ k, k < B → tagNew g.ρ B p w.heap.size k = g.ρ k := fun k hk => tagNew_old hp hk
  refine ⟨{ g with L := g.L ++ [⟨p, v, b⟩], ρ := tagNew g.ρ B p w.heap.size }, rfl, rfl, rfl, { map := rfl, st := ?_, ts := (hold _ hBs).trans h.ts, fresh := fun k hk => ?_, chain := ?_, tp := fun x hx => ?_, nodup := ?_, wv := fun x hx => ?_ }, hold, fun k hk => ?_⟩
  · show w2.heap[g.s]? = some (.cells #[.int .i64 g.n, ptr (hd (g.L ++ [⟨p, v, b⟩]) none)] _ _)
    rcases h2 with ⟨e, rfl⟩ | ⟨D, l, e, rfl⟩
    · rw [heap_setCell_self _ h.st, e]; rfl
    · have hs : g.s ≠ l.p := fun hh => by
        have h1 := h.ts
        rw [hh, h.tp l (by rw [e]; simp)] at h1
        cases h1
      rw [heap_setCell_ne _ (by exact hs)]
      have := h.st
      rw [e] at this ⊢
      rw [List.append_assoc, hd_append]
      rw [hd_append] at this
      cases D with
      | nil => exact this
      | cons z D => exact this
  · show (tagNew g.ρ B p w.heap.size k).1 = 0
    unfold tagNew
    rw [if_neg (by omega), if_neg (by omega), hB k (by omega)]
  · refine Chain.append.2 ⟨?_, ?_⟩
    · rcases h2 with ⟨e, rfl⟩ | ⟨D, l, e, rfl⟩
      · rw [e]; trivial
      · have hc := h.chain
        have hn := h.nodup
        rw [e] at hc hn ⊢
        obtain ⟨hD, hl⟩ := Chain.append.1 hc
        refine Chain.append.2 ⟨hD.keep fun y hy => heap_setCell_ne _ (by exact (ne_of_nodup hn).1 y hy), ?_⟩
        refine ⟨?_, trivial⟩
        rw [heap_setCell_self _ hl.1]
        rfl
    · rw [Nat.zero_add]
      refine ⟨?_, trivial⟩
      rw [hne p (by omega)]
      exact hnode
  · show tagNew g.ρ B p w.heap.size x.p = (1, (x.p : Int))
    rcases List.mem_append.1 hx with hx | hx
    · rw [hold _ (hBL x hx)]; exact h.tp x hx
    · simp only [List.mem_singleton] at hx
      subst hx
      unfold tagNew
      rw [if_pos rfl]
  · show ((g.L ++ ([⟨p, v, b⟩] : List Nd)).map Nd.p).Nodup
    rw [List.map_append, List.nodup_append]
    refine ⟨h.nodup, by simp, fun a ha b' hb' => ?_⟩
    obtain ⟨x, hx, rfl⟩ := List.mem_map.1 ha
    simp at hb'
    have := hBL x hx
    omega
  · rcases List.mem_append.1 hx with hx | hx
    · refine ⟨(h.wv x hx).1.keep fun k hk => hne k fun e => ?_, fun k hk => ?_⟩
      · have hr := (h.wv x hx).2 k hk
        rw [e] at hr
        rcases hql with q1 | q1
        · rw [hr] at q1; cases q1
        · rw [hr] at q1; cases q1
      · have hr := (h.wv x hx).2 k hk
        rcases Nat.lt_or_ge k B with hk' | hk'
        · exact (hold k hk').trans hr
        · rw [hB k hk'] at hr; cases hr
    · simp only [List.mem_singleton] at hx
      subst hx
      refine ⟨hv.keep fun k hk => hne k fun e => ?_, fun k hk => ?_⟩
      · have := (hov k hk).1; omega
      · have h1 := hov k hk
        have h2 := hv.lt k hk
        show tagNew g.ρ B p w.heap.size k = _
        unfold tagNew
        rw [if_neg h1.2, if_pos ⟨h1.1, h2⟩]
  · show tagNew g.ρ B p w.heap.size k = (0, 0)
    unfold tagNew
    rw [if_neg (by omega), if_neg (by omega), hB k (by omega)]
end
end Go.Sto
