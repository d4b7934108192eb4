/-
  Restore, as a plain function of the bytes: no walk.
-/
import Derived.Deep.CutRange
import Derived.Deep.LoopGhost
import Derived.Test.YtahfoejffibahaaQStoBlk
import Derived.Test.YtahfoejffibahaaQStoRef1
import Derived.Test.YtahfoejffibahaaQOwnRegionH
set_option linter.unusedVariables false

namespace Go.Sto
open Go.RowKit

/-- The blocks out of bytes, as long as words are left. -/
def blocksIn : Nat → Option Bool → Int → List Int → Except Int (St × List Int)
  | 0, _, _, _ => .error 0
  | f + 1, pv, left, l =>
    if left ≤ 0 then .ok ([], l) else
    match parse pv left l with
    | .error e => .error e
    | .ok (size, used, ws, r) =>
      match blocksIn f (some used) (left - size) r with
      | .error e => .error e
      | .ok (S, r') => .ok (⟨size.toNat, used, ws⟩ :: S, r')

/-- Blocks ahead of what came. -/
def cont (A : St) : Except Int (St × List Int) → Except Int (St × List Int)
  | .error e => .error e
  | .ok (S, r) => .ok (A ++ S, r)
theorem cont_cont (A B : St) (x : Except Int (St × List Int)) : cont A (cont B x) = cont (A ++ B) x := by
  cases x with
  | error e => rfl
  | ok p => obtain ⟨S, r⟩ := p; simp [cont]
theorem cont_nil (x : Except Int (St × List Int)) : cont [] x = x := by
  cases x with
  | error e => rfl
  | ok p => rfl

def restore (l : List Int) : Except Int (Int × St) :=
  if l.length < 8 then .error 7 else
  if ¬ (4 ≤ dec (l.take 8) ∧ dec (l.take 8) ≤ 32000 ∧ dec (l.take 8) % 2 = 0) then .error 1 else
  match blocksIn ((dec (l.take 8)).toNat + 1) none (dec (l.take 8)) (l.drop 8) with
  | .error e => .error e
  | .ok (S, r) => if r = [] then .ok (dec (l.take 8), S) else .error 3

theorem dec_wf_aux (l : List Int) (x : Int) : -9223372036854775808 ≤ x ∧ x ≤ 9223372036854775807 → -9223372036854775808 ≤ l.foldl (fun v c => wrap64 (v * 256 + c)) x ∧ l.foldl (fun v c => wrap64 (v * 256 + c)) x ≤ 9223372036854775807 := by
  induction l generalizing x with
  | nil => exact id
  | cons c l ih =>
    intro _
    refine ih _ ?_
    show -9223372036854775808 ≤ wrap64 (x * 256 + c) ∧ wrap64 (x * 256 + c) ≤ 9223372036854775807
    unfold wrap64
    omega
theorem dec_bounds (l : List Int) : -9223372036854775808 ≤ dec l ∧ dec l ≤ 9223372036854775807 := dec_wf_aux l 0 (by omega)

theorem lit_wf {x : Int} (h : -9223372036854775808 ≤ x ∧ x ≤ 9223372036854775807) : (Lit.int .i64 x).wf = true := by
  unfold Lit.wf
  rw [Bool.and_eq_true, decide_eq_true_eq, decide_eq_true_eq]
  exact h

theorem nums_wf (c : Nat) (l : List Int) : ∀ v ∈ nums c l, (Lit.int .i64 v).wf = true := by
  intro v hv
  obtain ⟨j, -, rfl⟩ := List.mem_map.1 hv
  exact lit_wf (dec_bounds _)

theorem parse_ok {pv : Option Bool} {left : Int} {l : List Int} {size : Int} {used : Bool} {ws r : List Int} (h : parse pv left l = .ok (size, used, ws, r)) :
    2 ≤ size ∧ size % 2 = 0 ∧ size ≤ left ∧ Good ⟨size.toNat, used, ws⟩ ∧ (used = false → pv ≠ some false) ∧ r.length + 8 ≤ l.length := by
  unfold parse at h
  split at h
  · cases h
  · rename_i hl
    split at h
    · cases h
    · rename_i hs
      split at h
      · cases h
      · rename_i hl1
        split at h
        · cases h
        · rename_i hf
          have hs' : 2 ≤ dec (l.take 8) ∧ dec (l.take 8) % 2 = 0 ∧ dec (l.take 8) ≤ left := ⟨Int.not_lt.1 fun q => hs (.inl q), Decidable.not_not.1 fun q => hs (.inr (.inl q)), Int.not_lt.1 fun q => hs (.inr (.inr q))⟩
          split at h
          · split at h
            · cases h
            · simp only [Except.ok.injEq, Prod.mk.injEq] at h
              obtain ⟨rfl, rfl, rfl, rfl⟩ := h
              refine ⟨hs'.1, hs'.2.1, hs'.2.2, ⟨by show 2 ≤ Int.toNat _; omega, by show Int.toNat _ % 2 = 0; omega, fun _ => ?_, (by intro q; cases q), nums_wf _ _⟩, (by intro q; cases q), by simp only [List.length_drop]; omega⟩
              show (nums _ _).length + 1 = (dec (l.take 8)).toNat
              rw [nums_length]
              omega
          · rename_i hf1
            simp only [Except.ok.injEq, Prod.mk.injEq] at h
            obtain ⟨rfl, rfl, rfl, rfl⟩ := h
            refine ⟨hs'.1, hs'.2.1, hs'.2.2, ⟨by show 2 ≤ Int.toNat _; omega, by show Int.toNat _ % 2 = 0; omega, (by intro q; cases q), fun _ => rfl, fun v hv => by cases hv⟩, fun _ q => hf (.inr (.inr ⟨hf1, q⟩)), by simp only [List.length_drop]; omega⟩

theorem parse_err {pv : Option Bool} {left : Int} {l : List Int} (h : parse pv left l = .error 0) : False := by
  unfold parse at h
  split at h
  · cases h
  · split at h
    · cases h
    · split at h
      · cases h
      · split at h
        · cases h
        · split at h
          · split at h <;> cases h
          · cases h

theorem blocksIn_ok : ∀ {f : Nat} {pv : Option Bool} {left : Int} {l : List Int} {S : St} {r : List Int}, blocksIn f pv left l = .ok (S, r) → 0 ≤ left → (sz S : Int) = left ∧ (∀ b ∈ S, Good b) ∧ Norm S ∧ (∀ b R, S = b :: R → b.used = false → pv ≠ some false)
  | 0, _, _, _, _, _, h, _ => by cases h
  | f + 1, pv, left, l, S, r, h, h0 => by
    unfold blocksIn at h
    split at h
    · simp only [Except.ok.injEq, Prod.mk.injEq] at h
      obtain ⟨rfl, rfl⟩ := h
      exact ⟨by simp [sz]; omega, fun b hb => (by cases hb), trivial, fun b R e => by cases e⟩
    · split at h
      · cases h
      · rename_i size used ws r1 hp
        obtain ⟨p1, p2, p3, p4, p5, -⟩ := parse_ok hp
        split at h
        · cases h
        · rename_i S' r' hb
          simp only [Except.ok.injEq, Prod.mk.injEq] at h
          obtain ⟨rfl, rfl⟩ := h
          obtain ⟨i1, i2, i3, i4⟩ := blocksIn_ok hb (by omega)
          refine ⟨by simp only [sz]; omega, fun b hb => ?_, norm_cons.2 ⟨fun b R e hh => ?_, i3⟩, fun b R e hu => ?_⟩
          · rcases List.mem_cons.1 hb with rfl | hb
            · exact p4
            · exact i2 b hb
          · have := i4 b R e hh.2
            have h1 : used = false := hh.1
            rw [h1] at this
            exact this rfl
          · cases e; exact p5 hu

theorem restore_ok {l : List Int} {n : Int} {S : St} (h : restore l = .ok (n, S)) : 4 ≤ n ∧ n ≤ 32000 ∧ Ok n.toNat S := by
  unfold restore at h
  split at h
  · cases h
  · split at h
    · cases h
    · rename_i hv
      have hv' := Decidable.not_not.1 hv
      split at h
      · cases h
      · rename_i S' r hb
        split at h
        · simp only [Except.ok.injEq, Prod.mk.injEq] at h
          obtain ⟨rfl, rfl⟩ := h
          obtain ⟨i1, i2, i3, -⟩ := blocksIn_ok hb (by omega)
          exact ⟨hv'.1, hv'.2.1, by omega, by omega, by omega, by omega, i2, i3⟩
        · cases h
end Go.Sto

/-
  The reference's Restore, walked: what has been read of a store.
-/
namespace Go.Sto
open Go.Own Go.RowKit Go.Proofs

/-- The memory of the reference's Restore: the result's cell tb, the reader rb, the blocks that came so far behind ob. -/
structure RRK (w0 : World) (tb rb ob bb : Nat) (L : List RN) (v : Value) (sh : Bool) (l : List Int) (w : World) : Prop where
  rd : ∃ a cap, RDr rb bb a cap sh l w
  bb0 : l ≠ [] → bb < w0.heap.size
  old : Below w0.heap.size w0 w
  tc : w.cell? ⟨tb, 0, none⟩ = some (.slice none 0 0)
  tf : w.frozen? ⟨tb, 0, none⟩ = false
  oc : w.cell? ⟨ob, 0, none⟩ = some v
  off : w.frozen? ⟨ob, 0, none⟩ = false
  ref : RefAt w v L
  own : ∀ k, v.ownBlock = some k → ob < k
  ord : w0.heap.size ≤ tb ∧ tb < rb ∧ rb < ob

section
variable {w0 w w' : World} {tb rb ob bb : Nat} {L : List RN} {v : Value} {sh sh' : Bool} {l l' : List Int}

theorem RRK.more {T : Nat → Prop} (h : RRK w0 tb rb ob bb L v sh l w) (t : Turn T w w') (hT : ∀ k, k < w.heap.size → T k → ob < k ∧ v.ownBlock ≠ some k) : RRK w0 tb rb ob bb L v sh l w' := by
  have ho := h.ord
  have hto : ob < w.heap.size := cell_lt h.oc
  have hT' : ∀ k, k ≤ ob → ¬ T k := fun k hk e => by have := (hT k (by omega) e).1; omega
  obtain ⟨a, cap, rd⟩ := h.rd
  exact { rd := ⟨a, cap, rd.more t (hT' rb (by omega)) (fun hne => hT' bb (by have := h.bb0 hne; omega))⟩, bb0 := h.bb0
          old := h.old.trans ⟨t.os, t.tape, t.output, t.size, fun k hk => t.block k (by omega) (hT' k (by omega))⟩
          tc := (t.cell (p := ⟨tb, 0, none⟩) (hT' tb (by omega)) (by show tb < _; omega)).trans h.tc
          tf := (t.frozen (p := ⟨tb, 0, none⟩) (hT' tb (by omega)) (by show tb < _; omega)).trans h.tf
          oc := (t.cell (p := ⟨ob, 0, none⟩) (hT' ob (by omega)) hto).trans h.oc
          off := (t.frozen (p := ⟨ob, 0, none⟩) (hT' ob (by omega)) hto).trans h.off
          ref := SliceAt.turn h.ref t fun k hk e => (hT k (SliceAt.lt h.ref k hk) e).2 hk
          own := h.own, ord := h.ord }
theorem RRK.alloc (h : RRK w0 tb rb ob bb L v sh l w) (o : Obj) : RRK w0 tb rb ob bb L v sh l (w.alloc o) := h.more (T := fun _ => False) ((Turn.refl _ w).alloc o) fun _ _ e => e.elim
theorem RRK.drew (h : RRK w0 tb rb ob bb L v sh l w) : RRK w0 tb rb ob bb L v sh l w.drew := h.more (T := fun _ => False) ((Turn.refl _ w).drew) fun _ _ e => e.elim

theorem RRK.reads {a' : Option Addr} {cap' : Nat} (h : RRK w0 tb rb ob bb L v sh l w) (t : Turn (fun k => k = rb) w w') (hl : l' ≠ [] → l ≠ []) (rd' : RDr rb bb a' cap' sh' l' w') : RRK w0 tb rb ob bb L v sh' l' w' := by
  have ho := h.ord
  have hto : ob < w.heap.size := cell_lt h.oc
  exact { rd := ⟨a', cap', rd'⟩, bb0 := fun hne => h.bb0 (hl hne)
          old := h.old.trans ⟨t.os, t.tape, t.output, t.size, fun k hk => t.block k (by omega) (by omega)⟩
          tc := (t.cell (p := ⟨tb, 0, none⟩) (show ¬ tb = rb by omega) (by show tb < _; omega)).trans h.tc
          tf := (t.frozen (p := ⟨tb, 0, none⟩) (show ¬ tb = rb by omega) (by show tb < _; omega)).trans h.tf
          oc := (t.cell (p := ⟨ob, 0, none⟩) (show ¬ ob = rb by omega) hto).trans h.oc
          off := (t.frozen (p := ⟨ob, 0, none⟩) (show ¬ ob = rb by omega) hto).trans h.off
          ref := SliceAt.turn h.ref t fun k hk e => by have e' : k = rb := e; have := h.own k hk; omega
          own := h.own, ord := h.ord }

theorem num_sub {l l2 : List Int} {x : Int} {sh sh2 : Bool} (h : num l sh = (x, l2, sh2)) : l2 ≠ [] → l ≠ [] := by
  intro hne e
  subst e
  rw [num_short _ (by simp)] at h
  cases h
  exact hne rfl

theorem RRK.calls (h : RRK w0 tb rb ob bb L v sh l w) : Calls Try.prog 55 #[.pointer (some ⟨rb, 0, none⟩)] w fun e w' => e = .returned (.int .i64 (num l sh).1) ∧ RRK w0 tb rb ob bb L v (num l sh).2.2 (num l sh).2.1 w' ∧ Turn (fun k => k = rb) w w' ∧ w'.heap.size = w.heap.size := by
  obtain ⟨a, cap, rd⟩ := h.rd
  refine (rnumber_calls rd).mono ?_
  rintro e w' ⟨rfl, ⟨a', cap', rd'⟩, t, hz, -⟩
  exact ⟨rfl, h.reads t (num_sub rfl) rd', t, hz⟩

theorem RRK.short (h : RRK w0 tb rb ob bb L v sh l w) : w.cell? ⟨rb, 1, none⟩ = some (.bool sh) := by
  obtain ⟨a, cap, rd⟩ := h.rd
  exact rd.cells.2
theorem RRK.len (h : RRK w0 tb rb ob bb L v sh l w) : ∃ a cap, w.cell? ⟨rb, 0, none⟩ = some (.slice a l.length cap) := by
  obtain ⟨a, cap, rd⟩ := h.rd
  exact ⟨a, cap, rd.cells.1⟩
end

def pvD (D : St) : Option Bool := D.getLast?.map Blk.used
theorem pvD_snoc (D : St) (b : Blk) : pvD (D ++ [b]) = some b.used := by simp [pvD]

/-- At the head of a round. -/
structure RRI (w0 : World) (tb rb ob bb n : Nat) (l1 : List Int) (L : List RN) (D : St) (v : Value) (l : List Int) (w : World) : Prop where
  k : RRK w0 tb rb ob bb L v false l w
  shape : L.map (fun x => (x.n, x.u)) = D.map (fun b => (b.size, b.used))
  le : sz D ≤ n
  two : 2 * D.length ≤ sz D
  eq : ∃ F, F + D.length = n + 1 ∧ blocksIn (n + 1) none n l1 = cont D (blocksIn F (pvD D) ((n : Int) - sz D) l)

section
variable {w0 w w' : World} {tb rb ob bb n : Nat} {l1 l r : List Int} {L : List RN} {D : St} {v : Value}

theorem RRI.err (h : RRI w0 tb rb ob bb n l1 L D v l w) (h0 : sz D < n) {er : Int} (hp : parse (pvD D) ((n : Int) - sz D) l = .error er) : blocksIn (n + 1) none n l1 = .error er := by
  obtain ⟨F, hF, heq⟩ := h.eq
  have h2 := h.two
  obtain ⟨F', rfl⟩ : ∃ F', F = F' + 1 := ⟨F - 1, by omega⟩
  rw [heq, blocksIn, if_neg (by omega), hp]
  rfl

theorem RRI.done (h : RRI w0 tb rb ob bb n l1 L D v l w) (h0 : sz D = n) : blocksIn (n + 1) none n l1 = .ok (D, l) := by
  obtain ⟨F, hF, heq⟩ := h.eq
  have h2 := h.two
  obtain ⟨F', rfl⟩ : ∃ F', F = F' + 1 := ⟨F - 1, by omega⟩
  rw [heq, blocksIn, if_pos (by omega)]
  simp [cont]

theorem RRI.step (h : RRI w0 tb rb ob bb n l1 L D v l w) (h0 : sz D < n) {size : Int} {used : Bool} {ws : List Int} (hp : parse (pvD D) ((n : Int) - sz D) l = .ok (size, used, ws, r)) {x : RN} (hx : x.n = size.toNat) (hu : x.u = used) {v' : Value}
    (k' : RRK w0 tb rb ob bb (L ++ [x]) v' false r w') : RRI w0 tb rb ob bb n l1 (L ++ [x]) (D ++ [⟨size.toNat, used, ws⟩]) v' r w' := by
  obtain ⟨p1, p2, p3, p4, p5, p6⟩ := parse_ok hp
  obtain ⟨F, hF, heq⟩ := h.eq
  have h2 := h.two
  have hs : sz (D ++ [⟨size.toNat, used, ws⟩]) = sz D + size.toNat := by rw [sz_append]; simp [sz]
  refine { k := k', shape := by simp [h.shape, hx, hu], le := by rw [hs]; omega, two := by rw [hs, List.length_append, List.length_singleton]; omega, eq := ?_ }
  obtain ⟨F', rfl⟩ : ∃ F', F = F' + 1 := ⟨F - 1, by omega⟩
  refine ⟨F', by rw [List.length_append, List.length_singleton]; omega, ?_⟩
  rw [heq, blocksIn, if_neg (by omega), hp, pvD_snoc, hs, ← cont_cont]
  congr 1
  have e : (n : Int) - (sz D + size.toNat : Nat) = (n : Int) - sz D - size := by omega
  simp only [e]
  cases blocksIn F' (some used) ((n : Int) - sz D - size) r with
  | error e => rfl
  | ok q => obtain ⟨S', r'⟩ := q; rfl
end

theorem elemR : Elem Try.prog 108 2 32 (.agg #[.slice none 0 0, .bool false]) := Elem.mk' (by kernel_rfl) rfl (by decide)

theorem RRK.push {w0 w w8 : World} {tb rb ob bb : Nat} {L : List RN} {v v8 : Value} {sh : Bool} {l : List Int} {x : RN} {o : Obj} (h : RRK w0 tb rb ob bb L v sh l w) (t : Turn (fun k => v.ownBlock = some k) (w.alloc o) w8)
    (s8 : SliceAt w8 108 2 v8 (rcells L ++ rcell x)) (o8 : v8.ownBlock = v.ownBlock ∨ v8.ownBlock = some (w.alloc o).heap.size) : RRK w0 tb rb ob bb (L ++ [x]) v8 sh l (w8.setCell ⟨ob, 0, none⟩ v8) := by
  have hord := h.ord
  have hto : ob < w.heap.size := cell_lt h.oc
  have ha := h.alloc o
  have t1 : Turn (fun k => v.ownBlock = some k ∨ k = ob) (w.alloc o) (w8.setCell ⟨ob, 0, none⟩ v8) := (t.mono fun k _ e => .inl e).setCell (p := ⟨ob, 0, none⟩) (fun _ => .inr rfl) _
  have hT : ∀ k, k < ob → ¬ (v.ownBlock = some k ∨ k = ob) := fun k hk e => by
    rcases e with e | e
    · have := h.own k e; omega
    · omega
  have hz : (w.alloc o).heap.size = w.heap.size + 1 := by simp
  have own8 : ∀ k, v8.ownBlock = some k → ob < k := fun k hk => by
    rcases o8 with q | q
    · rw [q] at hk; exact h.own k hk
    · rw [q] at hk; cases hk; omega
  obtain ⟨a, cap, rd⟩ := ha.rd
  have oc8 : w8.cell? ⟨ob, 0, none⟩ = some v := (t.cell (p := ⟨ob, 0, none⟩) (fun e => by have := h.own ob e; omega) (by show ob < _; omega)).trans ha.oc
  exact { rd := ⟨a, cap, rd.more t1 (hT rb (by omega)) (fun hne => hT bb (by have := h.bb0 hne; omega))⟩, bb0 := h.bb0
          old := ha.old.trans ⟨t1.os, t1.tape, t1.output, t1.size, fun k hk => t1.block k (by omega) (hT k (by omega))⟩
          tc := (t1.cell (p := ⟨tb, 0, none⟩) (hT tb (by omega)) (by show tb < _; omega)).trans ha.tc
          tf := (t1.frozen (p := ⟨tb, 0, none⟩) (hT tb (by omega)) (by show tb < _; omega)).trans ha.tf
          oc := World.cell?_setCell_same' _ _ _ (by rw [oc8]; rfl)
          off := by
            rw [World.frozen?_setCell]
            exact (t.frozen (p := ⟨ob, 0, none⟩) (fun e => by have := h.own ob e; omega) (by show ob < _; omega)).trans ha.off
          ref := by
            unfold RefAt
            rw [rcells_append]
            have e : rcells [x] = rcell x := by simp [rcells]
            rw [e]
            exact s8.keep fun k hk => heap_setCell_ne _ (fun e => by have := own8 k hk; have e' : k = ob := e; omega)
          own := own8, ord := h.ord }

theorem RRK.at_ob {w0 w w8 : World} {tb rb ob bb : Nat} {L : List RN} {v : Value} {sh : Bool} {l : List Int} {o : Obj} (h : RRK w0 tb rb ob bb L v sh l w) (t : Turn (fun k => v.ownBlock = some k) (w.alloc o) w8) : w8.cell? ⟨ob, 0, none⟩ = some v ∧ w8.frozen? ⟨ob, 0, none⟩ = false := by
  have ha := h.alloc o
  have hto : ob < (w.alloc o).heap.size := cell_lt ha.oc
  exact ⟨(t.cell (p := ⟨ob, 0, none⟩) (fun e => by have := h.own ob e; omega) hto).trans ha.oc, (t.frozen (p := ⟨ob, 0, none⟩) (fun e => by have := h.own ob e; omega) hto).trans ha.off⟩

theorem read_next {l3 lj l5 : List Int} {shj sh5 : Bool} {d : Int} {j c : Nat} (hn : num lj shj = (d, l5, sh5)) (hjc : j + 1 < c) (hsf : shj = false → lj = l3.drop (8 * j) ∧ 8 * j ≤ l3.length) (hst : shj = true → l3.length < 8 * (c - 1)) :
    (sh5 = false → l5 = l3.drop (8 * (j + 1)) ∧ 8 * (j + 1) ≤ l3.length) ∧ (sh5 = true → l3.length < 8 * (c - 1)) := by
  unfold num at hn
  split at hn
  · rename_i q
    simp only [Prod.mk.injEq] at hn
    obtain ⟨-, rfl, rfl⟩ := hn
    refine ⟨fun e => (by cases e), fun _ => ?_⟩
    cases hs : shj with
    | true => exact hst hs
    | false =>
      obtain ⟨h1, h2⟩ := hsf hs
      rw [h1, List.length_drop] at q
      omega
  · rename_i q
    simp only [Prod.mk.injEq] at hn
    obtain ⟨-, rfl, rfl⟩ := hn
    refine ⟨fun e => ?_, hst⟩
    obtain ⟨h1, h2⟩ := hsf e
    rw [h1, List.length_drop] at q
    rw [h1, List.drop_drop]
    exact ⟨by rw [show 8 * j + 8 = 8 * (j + 1) by omega], by omega⟩

theorem pvD_of {L : List RN} {D : St} (h : L.map (fun x => (x.n, x.u)) = D.map (fun b => (b.size, b.used))) : pvD D = L.getLast?.map RN.u := by
  have h1 := congrArg (fun l => (List.getLast? l).map Prod.snd) h
  simp only [List.getLast?_map, Option.map_map] at h1
  unfold pvD
  exact h1.symm

/-- The words of a block that is being read. -/
def WB (w : World) (xb wb c : Nat) (u : Bool) (X : List Int) : Prop :=
  w.heap[xb]? = some (.cells #[.slice (some ⟨wb, 0, none⟩) c c, .bool u] 108 (0, 0)) ∧ w.heap[wb]? = some (.cells (icells X).toArray 3 (0, 0)) ∧ X.length = c

theorem WB.turn {w w' : World} {xb wb c : Nat} {u : Bool} {X : List Int} {T : Nat → Prop} (h : WB w xb wb c u X) (t : Turn T w w') (h1 : ¬ T xb) (h2 : ¬ T wb) : WB w' xb wb c u X :=
  ⟨(t.block xb (heap_lt h.1) h1).trans h.1, (t.block wb (heap_lt h.2.1) h2).trans h.2.1, h.2.2⟩
theorem WB.set {w : World} {xb wb c : Nat} {u : Bool} {X : List Int} (h : WB w xb wb c u X) (hne : xb ≠ wb) (i : Nat) (d : Int) : WB (w.setCell ⟨wb, i, none⟩ (.int .i64 d)) xb wb c u (X.set i d) := by
  refine ⟨?_, ?_, by simpa using h.2.2⟩
  · rw [heap_setCell_ne _ hne]; exact h.1
  · rw [heap_setCell_self _ h.2.1]
    simp [icells, List.map_set]
theorem WB.cell {w : World} {xb wb c : Nat} {u : Bool} {X : List Int} (h : WB w xb wb c u X) : w.cell? ⟨xb, 0, none⟩ = some (.slice (some ⟨wb, 0, none⟩) c c) ∧ w.cell? ⟨xb, 1, none⟩ = some (.bool u) ∧ (∀ i, i < c → ∃ z, w.cell? ⟨wb, i, none⟩ = some (.int .i64 z)) ∧ ∀ i, w.frozen? ⟨wb, i, none⟩ = false :=
  ⟨cell_at h.1 rfl, cell_at h.1 rfl, fun i hi => ⟨X[i]'(by rw [h.2.2]; exact hi), cell_at h.2.1 (by simp [icells, h.2.2, hi])⟩, fun i => frozen_at h.2.1⟩

/-- The stages of 'x.words[w] = r.number()'. -/
def StN (wR : World) (d : Int) (M1 M2 : World → Prop) (s : Nat) (ξ : Nat → Value) (w : World) : Prop :=
  match s with
  | 0 => w = wR.drew
  | 1 => ξ 4 = .int .i64 d ∧ M1 w
  | _ => M2 w

def RRPost (l : List Int) (w : World) (e : Ending) (w' : World) : Prop :=
  Below w.heap.size w w' ∧ ((∃ er, restore l = .error er ∧ e = .returned (.tuple #[.agg #[.slice none 0 0], .int .i64 er])) ∨
  ∃ n S v L, restore l = .ok ((n : Nat), S) ∧ e = .returned (.tuple #[.agg #[v], .int .i64 0]) ∧ RefAt w' v L ∧ L.map (fun x => (x.n, x.u)) = S.map (fun b => (b.size, b.used)))
end Go.Sto
