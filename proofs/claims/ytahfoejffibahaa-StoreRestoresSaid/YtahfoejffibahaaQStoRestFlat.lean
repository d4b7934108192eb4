/-
  What Restore reads, Image writes again: plain laws.
-/
import Derived.Test.YtahfoejffibahaaQStoBackPure
namespace Go.Sto
open Go.RowKit

theorem foldl_wrap : ∀ (l : List Int) (v v' q0 : Int), v = v' + q0 * 18446744073709551616 → ∃ q : Int, l.foldl (fun v c => wrap64 (v * 256 + c)) v = l.foldl (fun v c => v * 256 + c) v' + q * 18446744073709551616
  | [], _, _, q0, h => ⟨q0, h⟩
  | c :: l, v, v', q0, h => by
    have hw : wrap64 (v * 256 + c) = (v' * 256 + c) + (q0 * 256 - ((v * 256 + c + 9223372036854775808) / 18446744073709551616)) * 18446744073709551616 := by
      unfold wrap64; subst h; omega
    exact foldl_wrap l _ _ _ hw

theorem digit {hi c lo K x : Int} (hx : x = lo + (hi * 256 + c) * K) (hK : 0 < K) (h0 : 0 ≤ lo) (h1 : lo < K) (c0 : 0 ≤ c) (c1 : c < 256) : x / K % 256 = c := by
  rw [hx, Int.add_mul_ediv_right _ _ (by omega), Int.ediv_eq_zero_of_lt h0 h1]
  omega

theorem enc8_dec {l : List Int} (hl : l.length = 8) (hb : ∀ x ∈ l, 0 ≤ x ∧ x < 256) : enc8 (dec l) = l := by
  match l, hl with
  | [a, b, c, d, e, f, g, h], _ =>
    obtain ⟨q, hq⟩ := foldl_wrap [a, b, c, d, e, f, g, h] 0 0 0 (by omega)
    obtain ⟨x, hx⟩ : ∃ x, dec [a, b, c, d, e, f, g, h] = x := ⟨_, rfl⟩
    have hq' : x = [a, b, c, d, e, f, g, h].foldl (fun v c => v * 256 + c) 0 + q * 18446744073709551616 := hx.symm.trans hq
    simp only [List.foldl_cons, List.foldl_nil] at hq'
    have ha := hb a (by simp)
    have hb' := hb b (by simp)
    have hc := hb c (by simp)
    have hd := hb d (by simp)
    have he := hb e (by simp)
    have hf := hb f (by simp)
    have hg := hb g (by simp)
    have hh := hb h (by simp)
    rw [hx]
    clear hx hq hb
    have k0 : x / (2 : Int) ^ (56 - 8 * 0) % 256 = a := digit (hi := q) (c := a) (lo := x - (q * 256 + a) * 72057594037927936) (K := 72057594037927936) (by omega) (by omega) (by omega) (by omega) ha.1 ha.2
    have k1 : x / (2 : Int) ^ (56 - 8 * 1) % 256 = b := digit (hi := q * 256 + a) (c := b) (lo := x - ((q * 256 + a) * 256 + b) * 281474976710656) (K := 281474976710656) (by omega) (by omega) (by omega) (by omega) hb'.1 hb'.2
    have k2 : x / (2 : Int) ^ (56 - 8 * 2) % 256 = c := digit (hi := (q * 256 + a) * 256 + b) (c := c) (lo := x - (((q * 256 + a) * 256 + b) * 256 + c) * 1099511627776) (K := 1099511627776) (by omega) (by omega) (by omega) (by omega) hc.1 hc.2
    have k3 : x / (2 : Int) ^ (56 - 8 * 3) % 256 = d := digit (hi := ((q * 256 + a) * 256 + b) * 256 + c) (c := d) (lo := x - ((((q * 256 + a) * 256 + b) * 256 + c) * 256 + d) * 4294967296) (K := 4294967296) (by omega) (by omega) (by omega) (by omega) hd.1 hd.2
    have k4 : x / (2 : Int) ^ (56 - 8 * 4) % 256 = e := digit (hi := (((q * 256 + a) * 256 + b) * 256 + c) * 256 + d) (c := e) (lo := x - (((((q * 256 + a) * 256 + b) * 256 + c) * 256 + d) * 256 + e) * 16777216) (K := 16777216) (by omega) (by omega) (by omega) (by omega) he.1 he.2
    have k5 : x / (2 : Int) ^ (56 - 8 * 5) % 256 = f := digit (hi := ((((q * 256 + a) * 256 + b) * 256 + c) * 256 + d) * 256 + e) (c := f) (lo := x - ((((((q * 256 + a) * 256 + b) * 256 + c) * 256 + d) * 256 + e) * 256 + f) * 65536) (K := 65536) (by omega) (by omega) (by omega) (by omega) hf.1 hf.2
    have k6 : x / (2 : Int) ^ (56 - 8 * 6) % 256 = g := digit (hi := (((((q * 256 + a) * 256 + b) * 256 + c) * 256 + d) * 256 + e) * 256 + f) (c := g) (lo := h) (K := 256) (by omega) (by omega) (by omega) (by omega) hg.1 hg.2
    have k7 : x / (2 : Int) ^ (56 - 8 * 7) % 256 = h := digit (hi := ((((((q * 256 + a) * 256 + b) * 256 + c) * 256 + d) * 256 + e) * 256 + f) * 256 + g) (c := h) (lo := 0) (K := 1) (by omega) (by omega) (by omega) (by omega) hh.1 hh.2
    show [byteAt x 0, byteAt x 1, byteAt x 2, byteAt x 3, byteAt x 4, byteAt x 5, byteAt x 6, byteAt x 7] = _
    unfold byteAt
    rw [k0, k1, k2, k3, k4, k5, k6, k7]

theorem split8 {l : List Int} (hl : 8 ≤ l.length) (hb : ∀ x ∈ l, 0 ≤ x ∧ x < 256) : l = enc8 (dec (l.take 8)) ++ l.drop 8 := by
  rw [enc8_dec (by rw [List.length_take]; omega) (fun x hx => hb x (List.mem_of_mem_take hx)), List.take_append_drop]

theorem nums_dec : ∀ (c : Nat) (l : List Int), 8 * c ≤ l.length → (∀ x ∈ l, 0 ≤ x ∧ x < 256) → l = (nums c l).flatMap enc8 ++ l.drop (8 * c)
  | 0, l, _, _ => by simp [nums]
  | c + 1, l, h, hb => by
    have ih := nums_dec c l (by omega) hb
    have h8 := split8 (l := l.drop (8 * c)) (by rw [List.length_drop]; omega) (fun x hx => hb x (List.mem_of_mem_drop hx))
    rw [List.drop_drop, show 8 * c + 8 = 8 * (c + 1) by omega] at h8
    rw [nums_succ, List.flatMap_append, List.append_assoc]
    have e : [dec ((l.drop (8 * c)).take 8)].flatMap enc8 = enc8 (dec ((l.drop (8 * c)).take 8)) := by simp
    rw [e, ← h8]
    exact ih

theorem parse_flat {pv : Option Bool} {left : Int} {l : List Int} {size : Int} {used : Bool} {ws r : List Int} (h : parse pv left l = .ok (size, used, ws, r)) (hb : ∀ x ∈ l, 0 ≤ x ∧ x < 256) : l = bim ⟨size.toNat, used, ws⟩ ++ r := by
  unfold parse at h
  split at h
  · cases h
  · rename_i hl
    split at h
    · cases h
    · rename_i hs
      split at h
      · cases h
      · rename_i hl1
        split at h
        · cases h
        · rename_i hf
          have h1 := split8 (l := l) (by omega) hb
          have hb1 : ∀ x ∈ l.drop 8, 0 ≤ x ∧ x < 256 := fun x hx => hb x (List.mem_of_mem_drop hx)
          have h2 := split8 (l := l.drop 8) (by omega) hb1
          have hs2 : 2 ≤ dec (l.take 8) := Int.not_lt.1 fun q => hs (.inl q)
          have hsz : ((dec (l.take 8)).toNat : Int) = dec (l.take 8) := by omega
          split at h
          · rename_i hf1
            split at h
            · cases h
            · rename_i hl3
              simp only [Except.ok.injEq, Prod.mk.injEq] at h
              obtain ⟨rfl, rfl, rfl, rfl⟩ := h
              have h3 := nums_dec ((dec (l.take 8)).toNat - 1) ((l.drop 8).drop 8) (by omega) (fun x hx => hb1 x (List.mem_of_mem_drop hx))
              rw [hf1] at h2
              rw [bim_used rfl]
              show l = enc8 ((dec (l.take 8)).toNat : Int) ++ _ ++ _
              rw [hsz, List.append_assoc, List.append_assoc, ← h3, ← h2]
              exact h1
          · rename_i hf1
            simp only [Except.ok.injEq, Prod.mk.injEq] at h
            obtain ⟨rfl, rfl, rfl, rfl⟩ := h
            have hf0 : dec ((l.drop 8).take 8) = 0 := by
              have a1 : ¬ dec ((l.drop 8).take 8) < 0 := fun q => hf (.inl q)
              have a2 : ¬ 1 < dec ((l.drop 8).take 8) := fun q => hf (.inr (.inl q))
              omega
            rw [hf0] at h2
            rw [bim_free rfl]
            show l = enc8 ((dec (l.take 8)).toNat : Int) ++ _ ++ _
            rw [hsz, List.append_assoc, ← h2]
            exact h1

theorem blocksIn_flat : ∀ (f : Nat) (pv : Option Bool) (left : Int) (l : List Int) (S : St) (r : List Int), blocksIn f pv left l = .ok (S, r) → (∀ x ∈ l, 0 ≤ x ∧ x < 256) → l = S.flatMap bim ++ r := by
  intro f
  induction f with
  | zero => intro pv left l S r h; cases h
  | succ f ih =>
    intro pv left l S r h hb
    unfold blocksIn at h
    split at h
    · simp only [Except.ok.injEq, Prod.mk.injEq] at h
      obtain ⟨rfl, rfl⟩ := h
      rfl
    · split at h
      · cases h
      · rename_i size used ws r1 hp
        split at h
        · cases h
        · rename_i S' r' hb'
          simp only [Except.ok.injEq, Prod.mk.injEq] at h
          obtain ⟨rfl, rfl⟩ := h
          have h1 := parse_flat hp hb
          have hb1 : ∀ x ∈ r1, 0 ≤ x ∧ x < 256 := fun x hx => hb x (by rw [h1]; exact List.mem_append_right _ hx)
          have h2 := ih _ _ _ _ _ hb' hb1
          rw [List.flatMap_cons, List.append_assoc, ← h2]
          exact h1

theorem restore_flat {l : List Int} {n : Int} {S : St} (h : restore l = .ok (n, S)) (hb : ∀ x ∈ l, 0 ≤ x ∧ x < 256) : l = enc8 n ++ S.flatMap bim := by
  unfold restore at h
  split at h
  · cases h
  · rename_i hl
    split at h
    · cases h
    · split at h
      · cases h
      · rename_i S' r hr
        split at h
        · rename_i hr0
          simp only [Except.ok.injEq, Prod.mk.injEq] at h
          obtain ⟨rfl, rfl⟩ := h
          have h1 := split8 (l := l) (by omega) hb
          have h2 := blocksIn_flat _ _ _ _ _ _ hr (fun x hx => hb x (List.mem_of_mem_drop hx))
          rw [hr0, List.append_nil] at h2
          rw [← h2]
          exact h1
        · cases h
end Go.Sto
