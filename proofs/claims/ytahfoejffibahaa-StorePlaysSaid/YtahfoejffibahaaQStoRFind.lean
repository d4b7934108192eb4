/-
  The reference's Find, walked.
-/
import Derived.Test.YtahfoejffibahaaQStoRCopy
set_option linter.unusedVariables false

namespace Go.Sto
open Go.Own Go.RowKit Go.Proofs

theorem hit_idx {p : Nat → Blk → Bool} : ∀ {S : St} {a i : Nat} {b : Blk}, S[i]? = some b → p (a + sz (S.take i)) b = true → (∀ k c, k < i → S[k]? = some c → p (a + sz (S.take k)) c = false) → hit p a S = some i
  | [], _, _, _, h, _, _ => by simp at h
  | y :: S, a, 0, b, h, h1, _ => by
    simp only [List.getElem?_cons_zero, Option.some.injEq] at h
    subst h
    simp only [List.take_zero, sz, Nat.add_zero] at h1
    simp [hit, h1]
  | y :: S, a, i + 1, b, h, h1, h0 => by
    have h2 := h0 0 y (by omega) rfl
    simp only [List.take_zero, sz, Nat.add_zero] at h2
    have ih := hit_idx (S := S) (a := a + y.size) (i := i) (b := b) (p := p) (by simpa using h) (by simpa [sz, Nat.add_assoc] using h1) (fun k c hk hc => by
      have := h0 (k + 1) c (by omega) (by simpa using hc)
      simpa [sz, Nat.add_assoc] using this)
    simp [hit, h2, ih]
theorem hit_none_idx {p : Nat → Blk → Bool} : ∀ {S : St} {a : Nat}, (∀ k c, S[k]? = some c → p (a + sz (S.take k)) c = false) → hit p a S = none
  | [], _, _ => rfl
  | y :: S, a, h0 => by
    have h2 := h0 0 y rfl
    simp only [List.take_zero, sz, Nat.add_zero] at h2
    have ih := hit_none_idx (S := S) (a := a + y.size) (p := p) (fun k c hc => by
      have := h0 (k + 1) c (by simpa using hc)
      simpa [sz, Nat.add_assoc] using this)
    simp [hit, h2, ih]

def findV (S : St) (a : Int) : Int := match find a S with | none => -1 | some i => i

theorem findV_some {S : St} {a : Int} {i : Nat} (h : find a S = some i) : findV S a = i := by unfold findV; rw [h]
theorem findV_none {S : St} {a : Int} (h : find a S = none) : findV S a = -1 := by unfold findV; rw [h]

def FindPre (S : St) (a : Int) (j : Nat) : Prop := ∀ k c, k < j → S[k]? = some c → isAt a (0 + sz (S.take k)) c = false
theorem FindPre.next {S : St} {a : Int} {j : Nat} (h : FindPre S a j) {b : Blk} (hb : S[j]? = some b) (hn : ¬ ((1 : Int) + (sz (S.take j) : Nat) = a ∧ b.used = true)) : FindPre S a (j + 1) := fun k c hk hc => by
  rcases Nat.lt_or_ge k j with q | q
  · exact h k c q hc
  · obtain rfl : k = j := by omega
    rw [hb] at hc; cases hc
    unfold isAt
    cases hu : b.used with
    | false => simp
    | true =>
      simp only [Bool.true_and, decide_eq_false_iff_not]
      intro e
      exact hn ⟨by omega, hu⟩

set_option maxRecDepth 100000 in
set_option maxHeartbeats 4000000 in
theorem rfind_calls {w : World} {v : Value} {L : List RN} {S : St} (h : RC w v L S) (hs : sz S ≤ 32000) (hl : S.length ≤ 16000) (a0 : Int) :
    Calls Try.prog 70 #[.agg #[v], .int .i64 a0] w fun e w' => e = .returned (.int .i64 (findV S a0)) ∧ Below w.heap.size w w' := by
  obtain ⟨a, cap, rfl, hn, hc, hcell⟩ := h.ref.form
  have hll : L.length ≤ 16000 := by rw [h.len]; exact hl
  have hrs : rsz L ≤ 32000 := by rw [h.rszall]; exact hs
  have H := Lib.hid (And.intro h (And.intro hcell hrs))
  clear h hcell hs hl hrs
  go_enter Try.func70, Try.ntmps70
  go_wp2
  obtain ⟨n0, hn0⟩ : ∃ n0, w.heap.size = n0 := ⟨_, rfl⟩
  obtain ⟨w1, hw1⟩ : ∃ w1, w.alloc (.cells #[.slice a L.length cap] 59) = w1 := ⟨_, rfl⟩
  have hB1 : Below w.heap.size w w1 := by rw [← hw1]; exact (Below.refl _ w).alloc (Nat.le_refl _) _
  have d0 : w1.cell? ⟨n0, 0, none⟩ = some (.slice a L.length cap) := by rw [← hw1, ← hn0]; exact cell_at (heap_alloc_new w _) rfl
  have hz1 : w1.heap.size = n0 + 1 := by rw [← hw1, ← hn0]; simp
  rw [hw1, hn0]
  have H1 := Lib.hid (And.intro hB1 (And.intro d0 (And.intro hz1 hn0)))
  clear hw1 hn0 hB1 d0 hz1
  go_loopg [5] (L.length) (fun k x wx => k ≤ L.length ∧ x = .int .i64 ((L.length - k : Nat) : Int) ∧ Below (n0 + 1) w1 wx ∧ FindPre S a0 (L.length - k))
  case atStart => exact ⟨Nat.le_refl _, by simp, Below.refl _ _, fun k c hk => by omega⟩
  case round =>
    obtain ⟨hk, rfl, hB, hF⟩ := hrel
    obtain ⟨j, hj⟩ : ∃ j, L.length - gk = j := ⟨_, rfl⟩
    rw [hj] at hF ⊢
    have c0 : wr.cell? ⟨n0, 0, none⟩ = some (.slice a L.length cap) := (hB.cell (p := ⟨n0, 0, none⟩) (by show n0 < n0 + 1; omega)).trans H1.out.2.1
    have HJ := Lib.hid (And.intro hj (And.intro hF hB))
    clear hj hF hB
    by_cases hlt : j < L.length
    · obtain ⟨x, hx⟩ : ∃ x, L[j]? = some x := ⟨_, List.getElem?_eq_getElem hlt⟩
      obtain ⟨bl, hbl, hxn, hxu, -⟩ := H.out.1.get hx
      obtain ⟨b, off, rfl, -, e1⟩ := H.out.2.1 j x hx
      have hbn : b < n0 := by have h : b < w.heap.size := cell_lt e1; rw [H1.out.2.2.2] at h; exact h
      have hB02 : Below n0 w wr := by have := H1.out.1; rw [H1.out.2.2.2] at this; exact this.trans (HJ.out.2.2.mono (by omega))
      have hat := rat_calls (w := wr) (H.out.1.ref.below (by rw [H1.out.2.2.2]; exact hB02)) H.out.2.2 (by omega) j (by omega)
      obtain ⟨A, hA⟩ : ∃ A : Int, 1 + ((rsz (L.take j) : Nat) : Int) = A := ⟨_, rfl⟩
      rw [hA] at hat
      rw [H.out.1.rsz] at hA
      have HAT := Lib.hid hat
      have e1 : wr.cell? ⟨b, off + j * 2 + 1, none⟩ = some (.bool bl.used) := by rw [← hxu]; exact (hB02.cell (p := ⟨b, off + j * 2 + 1, none⟩) hbn).trans e1
      obtain ⟨W1, hW1⟩ : ∃ W1, wr.alloc (.cells #[.slice (some ⟨b, off, none⟩) L.length cap] 59) = W1 := ⟨_, rfl⟩
      have hz : n0 + 1 ≤ wr.heap.size := by have := HJ.out.2.2.size; have := H1.out.2.2.1; omega
      have B1 : Below wr.heap.size wr W1 := by rw [← hW1]; exact (Below.refl _ wr).alloc (Nat.le_refl _) _
      have c1 : W1.cell? ⟨n0, 0, none⟩ = some (.slice (some ⟨b, off, none⟩) L.length cap) := (B1.cell (p := ⟨n0, 0, none⟩) (by show n0 < _; omega)).trans c0
      have e2 : W1.cell? ⟨b, off + j * 2 + 1, none⟩ = some (.bool bl.used) := (B1.cell (p := ⟨b, off + j * 2 + 1, none⟩) (by show b < _; omega)).trans e1
      have HX := Lib.hid (And.intro hbl (And.intro hA (show Below (n0 + 1) w1 W1 from HJ.out.2.2.trans (B1.mono hz))))
      rw [hW1] at hat
      have HAT := Lib.hid hat
      clear hat hB02 hx hxn hxu hbl hA B1 hz e1 hn hW1
      by_cases hq : A = a0
      · have q1 : (A == a0) = true := by simp [hq]
        have HQ := Lib.hid hq
        clear hq
        cases hu : bl.used with
        | false =>
          have HU := Lib.hid hu
          rw [hu] at e2
          clear hu
          go_wp2_with fail
          refine HAT.out.mono ?_
          rintro e w2 ⟨rfl, rfl⟩
          go_wp2
          go_roundg (gk - 1)
          case measure => have := HJ.out.1; omega
          case rel =>
            have hjj := HJ.out.1
            have e3 : L.length - (gk - 1) = j + 1 := by omega
            rw [e3]
            exact ⟨by omega, by go_num, HX.out.2.2, HJ.out.2.1.next HX.out.1 (fun h => by rw [HU.out] at h; exact absurd h.2 (by decide))⟩
        | true =>
          have HU := Lib.hid hu
          rw [hu] at e2
          clear hu
          go_wp2_with fail
          refine HAT.out.mono ?_
          rintro e w2 ⟨rfl, rfl⟩
          go_wp2
          go_ret
          have hf : find a0 S = some j := hit_idx (p := isAt a0) HX.out.1 (by unfold isAt; rw [HU.out]; have h1 := HX.out.2.1; have h2 := HQ.out; simp; omega) (fun k c hk hc => HJ.out.2.1 k c hk hc)
          exact ⟨by rw [findV_some hf]; rfl, by rw [H1.out.2.2.2]; exact (H1.out.2.2.2 ▸ H1.out.1).trans (HX.out.2.2.mono (by omega))⟩
      · have q1 : (A == a0) = false := by simp [hq]
        have HQ := Lib.hid hq
        clear hq
        go_wp2_with fail
        refine HAT.out.mono ?_
        rintro e w2 ⟨rfl, rfl⟩
        go_wp2
        go_roundg (gk - 1)
        case measure => have := HJ.out.1; omega
        case rel =>
          have hjj := HJ.out.1
          have e3 : L.length - (gk - 1) = j + 1 := by omega
          rw [e3]
          exact ⟨by omega, by go_num, HX.out.2.2, HJ.out.2.1.next HX.out.1 (fun h => HQ.out (by rw [← HX.out.2.1]; exact h.1))⟩
    · obtain rfl : j = L.length := by have := HJ.out.1; omega
      go_wp2
      go_ret
      have hf : find a0 S = none := hit_none_idx (p := isAt a0) (fun k c hc => HJ.out.2.1 k c (by have := (List.getElem?_eq_some_iff.1 hc).1; have := H.out.1.len; omega) hc)
      exact ⟨by rw [findV_none hf]; rfl, by rw [H1.out.2.2.2]; exact (H1.out.2.2.2 ▸ H1.out.1).trans (HJ.out.2.2.mono (by omega))⟩
end Go.Sto
