/-
  The reference player's put, of every number.
-/
import Derived.Test.YtahfoejffibahaaQStoRPlayPut
set_option linter.unusedVariables false

namespace Go.Sto
open Go.Own Go.RowKit Go.Proofs

theorem rpput_calls {w0 w : World} {pb : Nat} {q : RP} {v gv wv ov : Value} {L : List RN} {n : Nat} (h : RPM w0 pb q v gv wv ov L w) (ok : Ok n q.S) (hl : q.gave.length ≤ 1000) (hgl : q.got.length ≤ 1000) (hw : q.works.length = q.gave.length) (k : Int) :
    Calls Try.prog 42 #[.pointer (some ⟨pb, 0, none⟩), .int .i64 k] w (PPutPost w0 pb q gv wv ov k) := by
  by_cases hk : k < 0 ∨ (q.gave.length : Int) ≤ k ∨ q.works.getD k.toNat false = false
  · exact rpput_off h hl hw k hk
  · have hk0 : 0 ≤ k := by
      rcases Int.lt_or_le k 0 with c | c
      · exact absurd (.inl c) hk
      · exact c
    obtain ⟨m, rfl⟩ := Int.eq_ofNat_of_zero_le hk0
    have hm : m < q.gave.length := by
      rcases Nat.lt_or_ge m q.gave.length with c | c
      · exact c
      · exact absurd (.inr (.inl (by omega))) hk
    have hwm : q.works[m]? = some true := by
      have h1 : m < q.works.length := by omega
      rw [List.getElem?_eq_getElem h1]
      cases hb : q.works[m] with
      | true => rfl
      | false => exact absurd (.inr (.inr (by simp [List.getD, List.getElem?_eq_getElem h1, hb]))) hk
    exact rpput_on h ok hl hgl hw m (List.getElem?_eq_getElem hm) hwm
end Go.Sto
