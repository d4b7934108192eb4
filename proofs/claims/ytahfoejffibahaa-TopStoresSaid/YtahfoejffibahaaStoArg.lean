/-
  A slice of pairs of ints that came in.
-/
import Derived.Deep.Slices
import Derived.OpenShut
import Derived.Test.YtahfoejffibahaaStoTI
namespace Go.Sto
open Go.Own Go.RowKit Go.Proofs Go.ChangeShapes Go.WideShapes

set_option maxRecDepth 100000 in
theorem open_pairs {H : Type} {enc : TypeId × Value → H} {w : World} {a : Option Addr} {len cap fuel : Nat} {x : DataW H × List MemPlace}
    (h : DataW.trod enc Try.prog w 0 (fun _ => true) true fuel 22 [.slice a len cap] = some x) :
    ∃ l : List (Int × Int), l.length = len ∧ PIn w a l ∧ ∀ p ∈ l, (Lit.int .i64 p.1).wf = true ∧ (Lit.int .i64 p.2).wf = true := by
  have hc2 : Try.prog.cellsOf 67 = 2 := by kernel_rfl
  have hc1 : Try.prog.cellsOf 3 = 1 := by kernel_rfl
  have hpu : Try.prog.underlying 67 = some (.array 2 3) := Try.underlying67
  rcases Go.Deep.open_slice Try.underlying22 h with ⟨hcs, -⟩ | ⟨ad, ln, cp, m, n, D, Pl, hcs, hb, hl, hm, hmm, -, hx⟩
  · simp only [List.cons.injEq, Value.slice.injEq] at hcs
    obtain ⟨⟨rfl, rfl, rfl⟩, -⟩ := hcs
    exact ⟨[], rfl, .inl rfl, fun p hp => by cases hp⟩
  · simp only [List.cons.injEq, Value.slice.injEq] at hcs
    obtain ⟨⟨rfl, rfl, rfl⟩, -⟩ := hcs
    rw [if_pos rfl] at hmm
    subst hmm
    have each : ∀ i, i < len → ∃ q : Int × Int, w.cell? (ad.add (i * 2)) = some (.int .i64 q.1) ∧ w.cell? (ad.add (i * 2 + 1)) = some (.int .i64 q.2) ∧ (Lit.int .i64 q.1).wf = true ∧ (Lit.int .i64 q.2).wf = true := by
      intro i hi
      obtain ⟨cs', h1, h2⟩ := hx i (by omega)
      rw [hc2] at h1
      obtain ⟨-, hlen, hcell⟩ := World.cells?_some h1
      obtain ⟨xs, k, -, -, -, hxl, hf⟩ := DataW.trod_array hpu h2
      match xs, hxl, cs', hlen with
      | [y0, y1], _, [v0, v1], _ =>
        have g0 := hf 0 (by omega)
        have g1 := hf 1 (by omega)
        simp [hc1] at g0 g1
        obtain ⟨z0, e0, -, f0⟩ := DataW.trod_int Try.underlying3 g0
        obtain ⟨z1, e1, -, f1⟩ := DataW.trod_int Try.underlying3 g1
        have c0 := hcell 0 (by omega)
        have c1 := hcell 1 (by omega)
        simp only [List.cons.injEq, and_true] at e0 e1
        subst e0; subst e1
        refine ⟨(z0, z1), ?_, ?_, f0, f1⟩
        · rw [Go.Deep.add_add] at c0; simpa using c0
        · rw [Go.Deep.add_add] at c1; simpa using c1
    obtain ⟨q, hq⟩ := Go.Deep.choose_lt each
    refine ⟨(List.range len).map q, by simp, ?_, fun p hp => ?_⟩
    · by_cases h0 : len = 0
      · left; simp [h0]
      · right
        have hspot : ad.spot = none := by
          have := (hq 0 (by omega)).1
          simpa [Addr.add] using World.cell?_spot this
        obtain ⟨b, off, sp⟩ := ad
        simp only at hspot
        subst hspot
        refine ⟨b, off, rfl, fun i p hp => ?_⟩
        have hi : i < len := by
          have := (List.getElem?_eq_some_iff.1 hp).1
          simpa using this
        have : p = q i := by simpa [hi] using hp.symm
        subst this
        have h1 := (hq i hi).1
        have h2 := (hq i hi).2.1
        rw [Addr.add_lit] at h1 h2
        exact ⟨h1, by rw [Nat.add_assoc]; exact h2⟩
    · obtain ⟨i, hi, rfl⟩ := List.mem_map.1 hp
      exact (hq i (by simpa using hi)).2.2
end Go.Sto
