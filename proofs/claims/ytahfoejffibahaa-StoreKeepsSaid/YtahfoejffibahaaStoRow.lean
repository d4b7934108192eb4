/-
  A slice of ints that came in.
-/
import Derived.Deep.Slices
import Derived.OpenShut
import Derived.Test.YtahfoejffibahaaStoEq
namespace Go.Sto
open Go.Own Go.RowKit Go.Proofs

theorem ints_of_row {w : World} {a : Option Addr} {len cap : Nat} {zs : List Int}
    (h : (a = none ∧ len = 0 ∧ cap = 0 ∧ zs = []) ∨ ∃ x, a = some x ∧ len ≤ cap ∧ cap ≤ maxLen ∧ zs.length = cap ∧ (∀ i, i < zs.length → w.cell? (x.add i) = some (.int .i64 (zs.getD i 0))) ∧ ∀ n ∈ zs, (Lit.int .i64 n).wf = true) :
    ∃ l : List Int, l.length = len ∧ IntsC w a l ∧ ∀ p ∈ l, (Lit.int .i64 p).wf = true := by
  rcases h with ⟨rfl, rfl, rfl, rfl⟩ | ⟨x, rfl, hl, -, hz, hc, hw⟩
  · exact ⟨[], rfl, fun k x hk => by simp at hk, fun p hp => by cases hp⟩
  · refine ⟨zs.take len, by simp; omega, fun k v hk => ?_, fun p hp => hw p (List.mem_of_mem_take hp)⟩
    rw [List.getElem?_take] at hk
    split at hk
    · rename_i hkl
      have hkz : k < zs.length := by omega
      have h1 := hc k hkz
      have hspot : x.spot = none := by simpa [Addr.add] using World.cell?_spot (hc 0 (by omega))
      obtain ⟨b, off, sp⟩ := x
      simp only at hspot
      subst hspot
      refine ⟨b, off, rfl, ?_⟩
      rw [Addr.add_lit] at h1
      rw [h1, List.getD_eq_getElem?_getD, hk]; rfl
    · cases hk
end Go.Sto
