/-
  A slice of calls (structs of four ints) that came in.
-/
import Derived.Deep.Slices
import Derived.OpenShut
import Derived.Test.YtahfoejffibahaaQStoTopMain
namespace Go.Sto
open Go.Own Go.RowKit Go.Proofs Go.ChangeShapes Go.WideShapes

structure Act4 where
  d : Int
  a : Int
  b : Int
  c : Int

instance : Inhabited Act4 := ⟨⟨0, 0, 0, 0⟩⟩

def Act4.wf (p : Act4) : Prop := (Lit.int .i64 p.d).wf = true ∧ (Lit.int .i64 p.a).wf = true ∧ (Lit.int .i64 p.b).wf = true ∧ (Lit.int .i64 p.c).wf = true

/-- A call's four cells. -/
def A4 (w : World) (b o : Nat) (p : Act4) : Prop :=
  w.cell? ⟨b, o, none⟩ = some (.int .i64 p.d) ∧ w.cell? ⟨b, o + 1, none⟩ = some (.int .i64 p.a) ∧ w.cell? ⟨b, o + 2, none⟩ = some (.int .i64 p.b) ∧ w.cell? ⟨b, o + 3, none⟩ = some (.int .i64 p.c)

def AIn (w : World) (a : Option Addr) (l : List Act4) : Prop :=
  l = [] ∨ ∃ b off, a = some ⟨b, off, none⟩ ∧ ∀ i p, l[i]? = some p → A4 w b (off + i * 4) p

theorem A4.old {w w' : World} {b o : Nat} {p : Act4} (h : A4 w b o p) (ho : ∀ k, k < w.heap.size → w'.heap[k]? = w.heap[k]?) : A4 w' b o p := by
  have hlt := cell_lt h.1
  have e := ho b hlt
  have c : ∀ i, w'.cell? ⟨b, i, none⟩ = w.cell? ⟨b, i, none⟩ := fun i => by simp only [World.cell?, e]
  exact ⟨(c _).trans h.1, (c _).trans h.2.1, (c _).trans h.2.2.1, (c _).trans h.2.2.2⟩

theorem AIn.old {w0 w : World} {a : Option Addr} {l : List Act4} (h : AIn w0 a l) (ho : Old w0 w) : AIn w a l := by
  rcases h with h | ⟨b, off, ha, hc⟩
  · exact .inl h
  · exact .inr ⟨b, off, ha, fun i p hp => (hc i p hp).old fun k hk => ho.block k hk (fun hh => by omega)⟩

set_option maxRecDepth 100000 in
theorem open_acts {H : Type} {enc : TypeId × Value → H} {w : World} {a : Option Addr} {len cap fuel : Nat} {x : DataW H × List MemPlace}
    (h : DataW.trod enc Try.prog w 0 (fun _ => true) true fuel 32 [.slice a len cap] = some x) :
    ∃ l : List Act4, l.length = len ∧ AIn w a l ∧ ∀ p ∈ l, p.wf := by
  have hc4 : Try.prog.cellsOf 37 = 4 := by kernel_rfl
  have hc1 : Try.prog.cellsOf 3 = 1 := by kernel_rfl
  rcases Go.Deep.open_slice Try.underlying32 h with ⟨hcs, -⟩ | ⟨ad, ln, cp, m, n, D, Pl, hcs, hb, hl, hm, hmm, -, hx⟩
  · simp only [List.cons.injEq, Value.slice.injEq] at hcs
    obtain ⟨⟨rfl, rfl, rfl⟩, -⟩ := hcs
    exact ⟨[], rfl, .inl rfl, fun p hp => by cases hp⟩
  · simp only [List.cons.injEq, Value.slice.injEq] at hcs
    obtain ⟨⟨rfl, rfl, rfl⟩, -⟩ := hcs
    rw [if_pos rfl] at hmm
    subst hmm
    have each : ∀ i, i < len → ∃ q : Act4, w.cell? (ad.add (i * 4)) = some (.int .i64 q.d) ∧ w.cell? (ad.add (i * 4 + 1)) = some (.int .i64 q.a) ∧ w.cell? (ad.add (i * 4 + 2)) = some (.int .i64 q.b) ∧ w.cell? (ad.add (i * 4 + 3)) = some (.int .i64 q.c) ∧ q.wf := by
      intro i hi
      obtain ⟨cs', h1, h2⟩ := hx i (by omega)
      rw [hc4] at h1
      obtain ⟨-, hlen, hcell⟩ := World.cells?_some h1
      obtain ⟨xs, k, -, -, -, hxl, hf⟩ := DataW.trod_struct Try.underlying37 h2
      match xs, hxl, cs', hlen with
      | [y0, y1, y2, y3], _, [v0, v1, v2, v3], _ =>
        have g0 := hf 0 _ rfl
        have g1 := hf 1 _ rfl
        have g2 := hf 2 _ rfl
        have g3 := hf 3 _ rfl
        simp [hc1] at g0 g1 g2 g3
        obtain ⟨z0, e0, -, f0⟩ := DataW.trod_int Try.underlying3 g0
        obtain ⟨z1, e1, -, f1⟩ := DataW.trod_int Try.underlying3 g1
        obtain ⟨z2, e2, -, f2⟩ := DataW.trod_int Try.underlying3 g2
        obtain ⟨z3, e3, -, f3⟩ := DataW.trod_int Try.underlying3 g3
        have c0 := hcell 0 (by omega)
        have c1 := hcell 1 (by omega)
        have c2 := hcell 2 (by omega)
        have c3 := hcell 3 (by omega)
        simp only [List.cons.injEq, and_true] at e0 e1 e2 e3
        subst e0; subst e1; subst e2; subst e3
        refine ⟨⟨z0, z1, z2, z3⟩, ?_, ?_, ?_, ?_, f0, f1, f2, f3⟩
        · rw [Go.Deep.add_add] at c0; simpa using c0
        · rw [Go.Deep.add_add] at c1; simpa using c1
        · rw [Go.Deep.add_add] at c2; simpa using c2
        · rw [Go.Deep.add_add] at c3; simpa using c3
    obtain ⟨q, hq⟩ := Go.Deep.choose_lt each
    refine ⟨(List.range len).map q, by simp, ?_, fun p hp => ?_⟩
    · by_cases h0 : len = 0
      · left; simp [h0]
      · right
        have hspot : ad.spot = none := by
          have := (hq 0 (by omega)).1
          simpa [Addr.add] using World.cell?_spot this
        obtain ⟨b, off, sp⟩ := ad
        simp only at hspot
        subst hspot
        refine ⟨b, off, rfl, fun i p hp => ?_⟩
        have hi : i < len := by
          have := (List.getElem?_eq_some_iff.1 hp).1
          simpa using this
        have : p = q i := by simpa [hi] using hp.symm
        subst this
        obtain ⟨h1, h2, h3, h4, -⟩ := hq i hi
        rw [Addr.add_lit] at h1 h2 h3 h4
        exact ⟨h1, by rw [Nat.add_assoc]; exact h2, by rw [Nat.add_assoc]; exact h3, by rw [Nat.add_assoc]; exact h4⟩
    · obtain ⟨i, hi, rfl⟩ := List.mem_map.1 hp
      exact (hq i (by simpa using hi)).2.2.2.2
end Go.Sto
