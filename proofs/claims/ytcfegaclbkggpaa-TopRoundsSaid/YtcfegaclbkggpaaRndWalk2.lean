/-
  A packet out of its queue: slices.Index, slices.Delete, take, own; what take does.
-/
import Derived.Shelf.SlicesE.Delete
import Derived.Ground.SlgnProg
import Derived.Lib.RowBridge
import Derived.LaidEqlPtr
import Derived.Test.YtcfegaclbkggpaaRndWalk1
namespace Go.Rnd
open Go.Own Go.RowKit Go.Proofs Go.Shelf

shelf_lay_g SlLaysE.n45 Slgn 45 at Try 46 as Rnd.delLay

def pv (o : Option Nat) : Value := .pointer (o.map fun b => ⟨b, 0, none⟩)

section
variable {g : Gh} {K : KS} {w w' : World}

theorem SliceAt.setCells {w : World} {e : TypeId} {b off n cap : Nat} : ∀ (vs : List Value) {xs : List Value} (i : Nat), SliceAt w e 1 (.slice (some ⟨b, off, none⟩) n cap) xs → i + vs.length ≤ xs.length →
    SliceAt (w.setCells b (off + i) vs) e 1 (.slice (some ⟨b, off, none⟩) n cap) (xs.take i ++ vs ++ xs.drop (i + vs.length)) ∧ Turn (fun k => k = b) w (w.setCells b (off + i) vs) := by
  intro vs
  induction vs generalizing w with
  | nil => intro xs i h hi; exact ⟨by simpa [World.setCells] using h, Turn.refl _ _⟩
  | cons v vs ih =>
    intro xs i h hi
    simp only [List.length_cons] at hi
    have h1 := h.set i v (by omega)
    obtain ⟨h2, t2⟩ := ih (i + 1) h1 (by simp; omega)
    refine ⟨?_, ((Turn.refl (fun k => k = b) w).setCell (p := ⟨b, off + i, none⟩) (fun _ => rfl) v).trans t2⟩
    have e1 : (xs.set i v).take (i + 1) = xs.take i ++ [v] := by
      rw [List.take_add_one, List.take_set_of_le (Nat.le_refl _)]
      simp [show i < xs.length from by omega]
    have e2 : (xs.set i v).drop (i + 1 + vs.length) = xs.drop (i + (vs.length + 1)) := by
      rw [List.drop_set_of_lt (by omega)]; congr 1; omega
    rw [e1, e2] at h2
    simpa [World.setCells, Nat.add_assoc] using h2

theorem qv_pv (pb : Nat → Nat) (q : List Nat) : qv pb q = (q.map fun p => some (pb p)).map pv := by simp [qv, pv, Function.comp_def]

def DelPost (b off n cap : Nat) (r : List Value) (w : World) (e : Ending) (w' : World) : Prop :=
  e = .returned (.slice (some ⟨b, off, none⟩) n cap) ∧ SliceAt w' 64 1 (.slice (some ⟨b, off, none⟩) n cap) r ∧ Turn (fun k => k = b) w w'

theorem delete_calls {b off n cap : Nat} {pb : Nat → Nat} {p : Nat} {r : List Nat} (h : SliceAt w 64 1 (.slice (some ⟨b, off, none⟩) (n + 1) cap) (qv pb (p :: r))) :
    Calls Try.prog 46 #[.slice (some ⟨b, off, none⟩) (n + 1) cap, .int .i64 0, .int .i64 1] w (DelPost b off n cap (qv pb r) w) := by
  have hform := h.form
  obtain ⟨a', n', c', hv, hl, hnc, hm, -⟩ := hform
  cases hv
  have hn : r.length = n := by simp [qv] at hl; exact hl
  have hH : Sort.Holds pv w b off (((p :: r).map fun p => some (pb p)).toArray) := by
    intro j hj
    simp only [List.size_toArray, List.length_map, List.length_cons] at hj
    refine ⟨h.cells j _ ?_, h.frozen _⟩
    rw [qv_pv, List.getElem?_map]
    have : j < ((p :: r).map fun p => some (pb p)).length := by simp; exact hj
    rw [List.getElem?_eq_getElem this]
    simp only [Option.map_some]
    congr 2
    rw [getElem!_pos _ j (by simpa using hj)]
    simp
  obtain ⟨i0, hi0, -, hi1, -⟩ := elemPack.ex
  have hd := AnyE.slices_Delete Rnd.delLay pv (fun _ => rfl) none (by intro w; kernel_rfl) i0 hi0 hi1 b off cap 0 1 _ w hH (by simp; omega) (by unfold maxLen at hm; omega) (by omega) (by simp)
  have hsz : (((p :: r).map fun p => some (pb p)).toArray).size = n + 1 := by simp [hn]
  rw [hsz] at hd
  refine hd.mono ?_
  rintro e w1 ⟨rfl, q, rfl⟩
  have hys : (((p :: r).map fun p => some (pb p)).toArray.toList.take 0 ++ ((p :: r).map fun p => some (pb p)).toArray.toList.drop 1 ++ List.replicate (1 - 0) none) = (r.map fun p => some (pb p)) ++ [none] := by simp
  rw [hys, Lib.putRow_eq_setCells pv w b off _ ((r.map fun p => some (pb p)) ++ [none]) q hH (by simp)]
  have h1 : SliceAt (w.drewN q) 64 1 (.slice (some ⟨b, off, none⟩) (n + 1) cap) (qv pb (p :: r)) := h.keep fun _ _ => rfl
  obtain ⟨h2, t2⟩ := SliceAt.setCells (((r.map fun p => some (pb p)) ++ [none]).map pv) 0 h1 (by simp [qv])
  rw [Nat.add_zero] at h2 t2
  refine ⟨by simp, ?_, ?_⟩
  · have h3 := h2.take n (by omega)
    have e : (List.take 0 (qv pb (p :: r)) ++ List.map pv (List.map (fun p => some (pb p)) r ++ [none]) ++ List.drop (0 + (List.map pv (List.map (fun p => some (pb p)) r ++ [none])).length) (qv pb (p :: r))).take (n * 1) = qv pb r := by
      rw [Nat.mul_one, qv_pv pb r]
      simp [qv, hn]
    rwa [e] at h3
  · exact ⟨t2.os, t2.tape, t2.output, t2.size, t2.block⟩

set_option maxRecDepth 10000 in
theorem index_calls {b off n cap : Nat} {pb : Nat → Nat} {p : Nat} {r : List Nat} (h : SliceAt w 64 1 (.slice (some ⟨b, off, none⟩) (n + 1) cap) (qv pb (p :: r))) :
    Calls Try.prog 45 #[.slice (some ⟨b, off, none⟩) (n + 1) cap, pt (pb p)] w fun e w' => e = .returned (.int .i64 0) ∧ w' = w := by
  have c0 := h.cells 0 (pt (pb p)) rfl
  rw [Nat.add_zero] at c0
  have q1 : decide ((0 : Int) < ((n + 1 : Nat) : Int)) = true := decide_eq_true (by omega)
  have q2 : decide (((n + 1 : Nat) : Int) ≤ 0) = false := by simp
  obtain ⟨j, hj⟩ : ∃ j, Try.prog.info? 71 = some j := Option.isSome_iff_exists.1 (by kernel_rfl)
  have qe := run_eql_ptr_same (P := Try.prog) (w := w) (tp := 64) ⟨pb p, 0, none⟩ Try.underlying64 hj
  clear h
  go_enter Try.func45, Try.ntmps45
  go_wp2
  refine wp_loop_rounds 1 ?_
  rw [rounds_succ]
  go_wp2
  go_ret
  exact ⟨rfl, rfl⟩

set_option maxRecDepth 10000 in
set_option maxHeartbeats 1000000 in
theorem qtake_calls (h : Rep g K w) {i p : Nat} {r : List Nat} (h1 : 1 ≤ i) (h2 : i ≤ K.n) (hq : (K.ts i).q = p :: r) :
    Calls Try.prog 40 #[.pointer (some ⟨g.tb i, 7, none⟩), pt (g.pb p)] w (PutPost g K w i r) := by
  obtain ⟨v, q, qs⟩ := h.task i h1 h2
  rw [hq] at qs
  obtain ⟨qa, qc, rfl, -, -, hcell⟩ := packs_form qs.1
  obtain ⟨b, off, rfl, -⟩ := hcell 0 _ rfl
  obtain ⟨n, hn⟩ : ∃ n, (qv g.pb r).length = n := ⟨_, rfl⟩
  have hlen : (qv g.pb (p :: r)).length = n + 1 := by rw [← hn]; simp [qv]
  rw [hlen] at q qs
  obtain ⟨t0, t1, t2, t3, t4, t7, tf⟩ := t_cells q
  have htl := h.tlt h1 h2
  have hb : g.ρ b = (5, (i : Int)) := qs.2 b rfl
  have hne : g.tb i ≠ b := fun e => by rw [← e, h.tt i h1 h2] at hb; cases hb
  have HI := Lib.hid (index_calls qs.1)
  have HD := Lib.hid (delete_calls qs.1)
  have H := Lib.hid (And.intro h (And.intro q (And.intro hb (And.intro hne hq))))
  clear hcell hlen hn qs q h hq hb
  go_enter Try.func40, Try.ntmps40
  go_wp2_with (first
    | (go_at_call 45; refine HI.out.mono ?_; rintro e w0 ⟨rfl, hw0⟩; have hw0 := hw0.symm; subst hw0)
    | (go_at_call 46; refine HD.out.mono ?_; rintro e w1 ⟨rfl, hv, ht⟩
       have hq1 : w1.heap[g.tb i]? = some (.cells (tCells i (K.ts i) (.slice (some ⟨b, off, none⟩) (n + 1) qc)) 60 (0, 0)) := by rw [ht.block _ htl H.out.2.2.2.1]; exact H.out.2.1
       obtain ⟨s0, s1, s2, s3, s4, s7, sf⟩ := t_cells hq1
       have hT := Lib.hid (And.intro hv (And.intro ht hq1))
       clear hv ht hq1))
  go_end0
  obtain ⟨hv, ht, hq1⟩ := hT.out
  obtain ⟨h, q, hb, -, hq⟩ := H.out
  have hT : Turn (fun k => k = g.tb i ∨ g.ρ k = (5, (i : Int))) w (w1.setCell ⟨g.tb i, 7, none⟩ (.slice (some ⟨b, off, none⟩) n qc)) := by
    refine Turn.trans (b := w1) (ht.mono fun k _ e => .inr (e ▸ hb)) ((turn_set w1 (g.tb i) 7 _).mono fun k _ e => .inl e)
  refine ⟨rfl, g.ρ, h.set_task (ρ' := g.ρ) (v := .slice (some ⟨b, off, none⟩) n qc) h1 h2 hT (fun _ _ => rfl) (fun k hk => h.fresh k (by have := ht.size; simp at hk; omega)) (heap_setCell_self _ hq1) ⟨?_, fun b' hb' => ?_⟩ (fun x hx => ?_), hT.mono (fun k _ e => ?_), fun _ _ => rfl, rfl⟩
  · exact hv.turn (turn_set w1 (g.tb i) 7 _) fun b' hb' e => by
      cases hb'
      exact hne e.symm
  · cases hb'
    exact hb
  · exact h.qok i h1 h2 x (by rw [hq]; simp [hx])
  · rcases e with rfl | e
    · exact h.tne h1 h2
    · rw [e]; simp
end
end Go.Rnd
