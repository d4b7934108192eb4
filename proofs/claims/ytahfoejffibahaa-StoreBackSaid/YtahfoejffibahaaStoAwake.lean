/-
  The first example of the chapter, walked.
-/
import Derived.Test.YtahfoejffibahaaStoEq
namespace Go.Sto
open Go.Own Go.RowKit Go.Proofs

def ex18 : List (Int × Int) := [(0, 3), (0, 4), (1, 0), (0, 1)]
theorem ex18_end : (playEnd ex18 16).gave = [1, 5, 0, 1] ∧ (blkCells (blocks 0 (playEnd ex18 16).S)).length = 12 ∧ (blkCells (blocks 0 (playEnd ex18 16).S)).take 3 = [.int .i64 0, .int .i64 2, .bool false] := ⟨by decide, by rfl, by rfl⟩
theorem ex18_ok : ∀ p ∈ ex18, DoOk p.1 := by
  intro p hp
  simp only [ex18, List.mem_cons, List.not_mem_nil, or_false] at hp
  rcases hp with rfl | rfl | rfl | rfl
  · exact doOk_get
  · exact doOk_get
  · exact doOk_put
  · exact doOk_get
theorem ex18_wf : ∀ p ∈ ex18, (Lit.int .i64 p.1).wf = true ∧ (Lit.int .i64 p.2).wf = true := by decide

def ex18row : Obj := .cells #[.int .i64 0, .int .i64 3, .int .i64 0, .int .i64 4, .int .i64 1, .int .i64 0, .int .i64 0, .int .i64 1] 67

theorem ex18_in (w : World) : PIn (w.alloc ex18row) (some ⟨w.heap.size, 0, none⟩) ex18 := by
  refine .inr ⟨_, _, rfl, fun i p hp => ?_⟩
  have hb := heap_alloc_new w ex18row
  have c : ∀ (i : Nat) v, (#[.int .i64 0, .int .i64 3, .int .i64 0, .int .i64 4, .int .i64 1, .int .i64 0, .int .i64 0, .int .i64 1] : Array Value)[i]? = some v → (w.alloc ex18row).cell? ⟨w.heap.size, i, none⟩ = some v := fun i v h => cell_at hb h
  match i, hp with
  | 0, hp => cases hp; exact ⟨c 0 _ rfl, c 1 _ rfl⟩
  | 1, hp => cases hp; exact ⟨c 2 _ rfl, c 3 _ rfl⟩
  | 2, hp => cases hp; exact ⟨c 4 _ rfl, c 5 _ rfl⟩
  | 3, hp => cases hp; exact ⟨c 6 _ rfl, c 7 _ rfl⟩
  | _ + 4, hp => cases hp

theorem ex18_play (w : World) : Calls Try.prog 13 #[.int .i64 16, .slice (some ⟨w.heap.size, 0, none⟩) 4 4] (w.alloc ex18row) (PlayPost (w.alloc ex18row) 16 ex18) :=
  play_good 16 (by decide) (by decide) (by decide) ex18 _ 4 (ex18_in w) (by decide) ex18_ok ex18_wf fun w' h => by
    have := contains_calls 4 h (by decide)
    rw [show ex18.any badCall = false by decide] at this
    exact this

def ex18lits : Obj := .cells #[.int .i64 1, .int .i64 5, .int .i64 0, .int .i64 1] 3
theorem ex18_lits (w : World) : IntsC (w.alloc ex18lits) (some ⟨w.heap.size, 0, none⟩) [1, 5, 0, 1] := by
  intro i x hx
  refine ⟨_, _, rfl, ?_⟩
  have hb := heap_alloc_new w ex18lits
  have c : ∀ (i : Nat) v, (#[.int .i64 1, .int .i64 5, .int .i64 0, .int .i64 1] : Array Value)[i]? = some v → (w.alloc ex18lits).cell? ⟨w.heap.size, i, none⟩ = some v := fun i v h => cell_at hb h
  rw [Nat.zero_add]
  match i, hx with
  | 0, hx => cases hx; exact c 0 _ rfl
  | 1, hx => cases hx; exact c 1 _ rfl
  | 2, hx => cases hx; exact c 2 _ rfl
  | 3, hx => cases hx; exact c 3 _ rfl
  | _ + 4, hx => cases hx

theorem ex18_first {w : World} {pb po pc : Nat} (hb : SliceAt w 46 3 (.slice (some ⟨pb, po, none⟩) 4 pc) (blkCells (blocks 0 (playEnd ex18 16).S))) :
    w.cell? ⟨pb, po, none⟩ = some (.int .i64 0) ∧ w.cell? ⟨pb, po + 1, none⟩ = some (.int .i64 2) ∧ w.cell? ⟨pb, po + 2, none⟩ = some (.bool false) := by
  have e : ∀ i : Nat, i < 3 → (blkCells (blocks 0 (playEnd ex18 16).S))[i]? = ([.int .i64 0, .int .i64 2, .bool false] : List Value)[i]? := fun i hi => by
    rw [← ex18_end.2.2, List.getElem?_take, if_pos hi]
  exact ⟨hb.cells 0 _ (e 0 (by decide)), hb.cells 1 _ (e 1 (by decide)), hb.cells 2 _ (e 2 (by decide))⟩

theorem old_trans {w0 w1 w2 : World} (h : Old w0 w1) (k : Old w1 w2) : Old w0 w2 :=
  h.trans (k.mono fun i (a : i < _) (b : _ ≤ i) => absurd a (Nat.not_lt.2 b))

set_option maxRecDepth 100000 in
set_option maxHeartbeats 2000000 in
theorem awake_calls (w : World) : Calls Try.prog 12 #[] w fun e w' => e = .returned (.bool true) ∧ Old w w' := by
  have HP := Lib.hid (ex18_play w)
  go_enter Try.func12, Try.ntmps12
  go_wp2_with fail
  refine HP.out.mono ?_
  rintro e1 w1 ⟨v, bv, rfl, hv, hb, ho⟩
  rw [ex18_end.1] at hv
  obtain ⟨a, cap, rfl, -, -, hc⟩ := ints_form hv
  obtain ⟨pa, pn, pc, rfl, hpl, -⟩ := hb.form
  rw [ex18_end.2.1] at hpl
  obtain rfl : pn = 4 := by omega
  obtain ⟨pb, po, rfl⟩ := hb.addr (by decide)
  obtain ⟨d0, d1, d2⟩ := ex18_first hb
  have hbl := cell_lt d0
  have HE := Lib.hid (eqints_calls (w := w1.alloc ex18lits) (a1 := a) (a2 := some ⟨w1.heap.size, 0, none⟩) (l1 := [1, 5, 0, 1]) (l2 := [1, 5, 0, 1]) cap 4 (IntsC.below hc ((Below.refl _ w1).alloc (Nat.le_refl _) ex18lits)) (ex18_lits w1) (by decide) (by decide))
  have HO := Lib.hid ho
  clear hv hc hb ho
  have HK : ∀ w2, Below (w1.alloc ex18lits).heap.size (w1.alloc ex18lits) w2 → w2.cell? ⟨pb, po, none⟩ = some (.int .i64 0) ∧ w2.cell? ⟨pb, po + 1, none⟩ = some (.int .i64 2) ∧ w2.cell? ⟨pb, po + 2, none⟩ = some (.bool false) := fun w2 hB => by
    have hB' : Below w1.heap.size w1 w2 := ((Below.refl _ w1).alloc (Nat.le_refl _) ex18lits).trans (hB.mono (by simp))
    exact ⟨(hB'.cell (p := ⟨pb, po, none⟩) hbl).trans d0, (hB'.cell (p := ⟨pb, po + 1, none⟩) hbl).trans d1, (hB'.cell (p := ⟨pb, po + 2, none⟩) hbl).trans d2⟩
  have HK := Lib.hid HK
  clear d0 d1 d2
  go_wp2_with fail
  refine HE.out.mono ?_
  rintro e2 w2 ⟨rfl, hB2⟩
  obtain ⟨d0, d1, d2⟩ := HK.out w2 hB2
  go_wp2_with fail
  go_ret
  refine ⟨rfl, ?_⟩
  have h1 : Old w (w.alloc ex18row) := (Turn.refl _ w).alloc _
  have hz := HO.out.size
  have hB' : Below w1.heap.size w1 w2 := ((Below.refl _ w1).alloc (Nat.le_refl _) ex18lits).trans (hB2.mono (by simp))
  exact old_trans h1 (old_trans HO.out ⟨hB'.os, hB'.tape, hB'.output, hB'.size, fun k hk _ => hB'.block k hk⟩)
end Go.Sto
