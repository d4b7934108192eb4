/-
  A slice of events that came in.
-/
import Derived.Deep.Slices
import Derived.OpenShut
import Derived.SizedLaws
import Derived.Test.YtjdafmpkobelcaaDoorQConEq
set_option linter.unusedVariables false

namespace Go.Con
open Go.Own Go.RowKit Go.Proofs Go.ChangeShapes Go.WideShapes

structure Ev where
  d : Int
  t : Int
  b : Bytes

instance : Inhabited Ev := ⟨⟨0, 0, []⟩⟩

def Ev.wf (p : Ev) : Prop := (Lit.int .i64 p.d).wf = true ∧ (Lit.int .i64 p.t).wf = true

/-- An event's three cells. -/
def E3 (w : World) (b o : Nat) (p : Ev) : Prop :=
  w.cell? ⟨b, o, none⟩ = some (.int .i64 p.d) ∧ w.cell? ⟨b, o + 1, none⟩ = some (.int .i64 p.t) ∧ ∃ a c, w.cell? ⟨b, o + 2, none⟩ = some (.slice a p.b.length c) ∧ BCells w a p.b

def EvIn (w : World) (a : Option Addr) (l : List Ev) : Prop :=
  l = [] ∨ ∃ b off, a = some ⟨b, off, none⟩ ∧ ∀ i p, l[i]? = some p → E3 w b (off + i * 3) p

theorem E3.old {w w' : World} {b o : Nat} {p : Ev} (h : E3 w b o p) (ho : Old w w') : E3 w' b o p := by
  obtain ⟨h1, h2, a, c, h3, h4⟩ := h
  have hlt := World.block_lt_of_cell? w _ h1
  have e := ho.block b hlt (fun hh => by have h5 : b < w.heap.size := hlt; have h6 : w.heap.size ≤ b := hh; omega)
  have cc : ∀ i, w'.cell? ⟨b, i, none⟩ = w.cell? ⟨b, i, none⟩ := fun i => by simp only [World.cell?, e]
  refine ⟨(cc _).trans h1, (cc _).trans h2, a, c, (cc _).trans h3, ?_⟩
  rcases h4 with q | ⟨b2, off, ha, hc⟩
  · exact .inl q
  · refine .inr ⟨b2, off, ha, fun i hi => ?_⟩
    have hb := World.block_lt_of_cell? w _ (hc i hi)
    rw [ho.cell (fun hh => by have h5 : b2 < w.heap.size := hb; have h6 : w.heap.size ≤ b2 := hh; omega) hb]
    exact hc i hi

theorem EvIn.old {w0 w : World} {a : Option Addr} {l : List Ev} (h : EvIn w0 a l) (ho : Old w0 w) : EvIn w a l := by
  rcases h with h | ⟨b, off, ha, hc⟩
  · exact .inl h
  · exact .inr ⟨b, off, ha, fun i p hp => (hc i p hp).old ho⟩

theorem weightsAll_mem {H : Type} {P : Program} {e : TypeId} {m : Nat} : ∀ {ds : List (DataW H)} {d : DataW H}, d ∈ ds → m ∈ d.weights P e → m ∈ DataW.weightsAll P e ds
  | d0 :: ds, d, hd, hm => by
    simp only [DataW.weightsAll, List.mem_append]
    rcases List.mem_cons.1 hd with rfl | hd
    · exact .inl hm
    · exact .inr (weightsAll_mem hd hm)
  | [], _, hd, _ => by cases hd

set_option maxRecDepth 100000 in
theorem open_events {H : Type} {enc : TypeId × Value → H} {w : World} {a : Option Addr} {len cap fuel : Nat} {x : DataW H × List MemPlace}
    (h : DataW.trod enc Tryd.prog w 0 (fun _ => true) true fuel 22 [.slice a len cap] = some x)
    (hsz : ∀ m ∈ x.1.weights Tryd.prog 22, m ≤ reachBytes) :
    ∃ l : List Ev, l.length = len ∧ EvIn w a l ∧ l.length ≤ 9223372036854775807 ∧ ∀ p ∈ l, p.wf ∧ p.b.length ≤ 140737488351232 := by
  have hc3 : Tryd.prog.cellsOf 29 = 3 := by kernel_rfl
  have hc1 : Tryd.prog.cellsOf 3 = 1 := by kernel_rfl
  have hcb : Tryd.prog.cellsOf 26 = 1 := by kernel_rfl
  rcases Go.Deep.open_slice Tryd.underlying22 h with ⟨hcs, -⟩ | ⟨ad, ln, cp, m, n, D, Pl, hcs, hb, hl, hm, hmm, hxe, hx⟩
  · simp only [List.cons.injEq, Value.slice.injEq] at hcs
    obtain ⟨⟨rfl, rfl, rfl⟩, -⟩ := hcs
    exact ⟨[], rfl, .inl rfl, by simp, fun p hp => by cases hp⟩
  · simp only [List.cons.injEq, Value.slice.injEq] at hcs
    obtain ⟨⟨rfl, rfl, rfl⟩, -⟩ := hcs
    rw [if_pos rfl] at hmm
    subst hmm
    have each : ∀ i, i < len → ∃ q : Ev, w.cell? (ad.add (i * 3)) = some (.int .i64 q.d) ∧ w.cell? (ad.add (i * 3 + 1)) = some (.int .i64 q.t) ∧ (∃ ba bc, w.cell? (ad.add (i * 3 + 2)) = some (.slice ba q.b.length bc) ∧ BCells w ba q.b) ∧ q.wf ∧ q.b.length ≤ 140737488351232 := by
      intro i hi
      obtain ⟨cs', h1, h2⟩ := hx i (by omega)
      rw [hc3] at h1
      obtain ⟨-, hlen, hcell⟩ := World.cells?_some h1
      obtain ⟨xs, k, -, hxd, -, hxl, hf⟩ := DataW.trod_struct Tryd.underlying29 h2
      match xs, hxl, cs', hlen with
      | [y0, y1, y2], _, [v0, v1, v2], _ =>
        have g0 := hf 0 _ rfl
        have g1 := hf 1 _ rfl
        have g2 := hf 2 _ rfl
        simp [hc1, hcb] at g0 g1 g2
        obtain ⟨z0, e0, -, f0⟩ := DataW.trod_int Tryd.underlying3 g0
        obtain ⟨z1, e1, -, f1⟩ := DataW.trod_int Tryd.underlying3 g1
        have c0 := hcell 0 (by omega)
        have c1 := hcell 1 (by omega)
        have c2 := hcell 2 (by omega)
        simp only [List.cons.injEq, and_true] at e0 e1
        subst e0; subst e1
        rw [Go.Deep.add_add] at c0 c1 c2
        simp at c0 c1 c2
        rcases open_ints Tryd.underlying26 Tryd.underlying5 (by kernel_rfl) g2 with ⟨hcs, -⟩ | ⟨ba, bl, bc, zs, hcs, -, hbl, hbm, hz, hzx, hzc, hzw⟩
        · simp only [List.cons.injEq, and_true] at hcs
          subst hcs
          exact ⟨⟨z0, z1, []⟩, c0, c1, ⟨none, 0, c2, .inl rfl⟩, ⟨f0, f1⟩, Nat.zero_le _⟩
        · simp only [List.cons.injEq, and_true] at hcs
          subst hcs
          obtain ⟨bs, hbs, hbc⟩ := bytes_of_row (a := some ba) (len := bl) (cap := bc) (zs := zs) (.inr ⟨ba, rfl, hbl, hbm, by simpa using hz, hzc, hzw⟩)
          have hbz : bs.length ≤ 140737488351232 := by
            have hz' : zs.length = bc := by simpa using hz
            have hD : D i ∈ (List.range len).map D := List.mem_map.2 ⟨i, List.mem_range.2 hi, rfl⟩
            have hDi : D i = .agg [y0.1, y1.1, y2.1] := by simpa using congrArg Prod.fst hxd
            have hy2 : y2.1 = .slice (lits .u8 (zs.take bl)) (lits .u8 (zs.drop bl)) := by rw [hzx]
            have hw1 : ((lits (H := H) .u8 (zs.take bl)).length + (lits (H := H) .u8 (zs.drop bl)).length) * Tryd.prog.bytesOf 5 ∈ (D i).weights Tryd.prog 29 := by
              rw [hDi, hy2]
              simp only [DataW.weights, Tryd.underlying29]
              simp only [DataW.weightsEach, DataW.weights, Tryd.underlying26, List.map_cons, List.map_nil, List.mem_append, List.mem_cons]
              right; right; left; left; trivial
            have hw2 := hsz _ (by
              rw [hxe]
              simp only [DataW.weights, Tryd.underlying22]
              exact List.mem_cons_of_mem _ (List.mem_append_left _ (weightsAll_mem hD hw1)))
            have hb1 : Tryd.prog.bytesOf 5 = 1 := by kernel_rfl
            rw [hb1] at hw2
            simp only [lits, List.length_map, List.length_take, List.length_drop, reachBytes] at hw2
            omega
          exact ⟨⟨z0, z1, bs⟩, c0, c1, ⟨some ba, bc, by rw [hbs]; exact c2, hbc⟩, ⟨f0, f1⟩, hbz⟩
    obtain ⟨q, hq⟩ := Go.Deep.choose_lt each
    refine ⟨(List.range len).map q, by simp, ?_, by simp; unfold maxLen at hm; omega, fun p hp => ?_⟩
    · by_cases h0 : len = 0
      · left; simp [h0]
      · right
        have hspot : ad.spot = none := by
          have := (hq 0 (by omega)).1
          simpa [Addr.add] using World.cell?_spot this
        obtain ⟨b, off, sp⟩ := ad
        simp only at hspot
        subst hspot
        refine ⟨b, off, rfl, fun i p hp => ?_⟩
        have hi : i < len := by
          have := (List.getElem?_eq_some_iff.1 hp).1
          simpa using this
        have : p = q i := by simpa [hi] using hp.symm
        subst this
        obtain ⟨h1, h2, ⟨ba, bc, h3, h4⟩, -⟩ := hq i hi
        rw [Addr.add_lit] at h1 h2 h3
        exact ⟨h1, by rw [Nat.add_assoc]; exact h2, ba, bc, by rw [Nat.add_assoc]; exact h3, h4⟩
    · obtain ⟨i, hi, rfl⟩ := List.mem_map.1 hp
      exact (hq i (by simpa using hi)).2.2.2
end Go.Con
