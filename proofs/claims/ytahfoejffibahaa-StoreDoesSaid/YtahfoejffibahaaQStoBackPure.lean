/-
  What Image writes, Restore reads: plain laws.
-/
import Derived.Test.YtahfoejffibahaaQStoImg
import Derived.Test.YtahfoejffibahaaQStoRestPure
set_option linter.unusedVariables false

namespace Go.Sto
open Go.RowKit

theorem dec_encTo {x : Int} : ∀ i : Nat, i ≤ 8 → -9223372036854775808 ≤ x → x ≤ 9223372036854775807 → ∃ m : Int, dec (encTo x i) = x / (2 : Int) ^ (64 - 8 * i) + m * (2 : Int) ^ (8 * i)
  | 0, _, h0, h1 => by
    refine ⟨- (x / 18446744073709551616), ?_⟩
    have : (2 : Int) ^ (64 - 8 * 0) = 18446744073709551616 := by decide
    rw [this]
    show dec [] = _
    simp [dec]
    omega
  | i + 1, hi, h0, h1 => by
    obtain ⟨m, hm⟩ := dec_encTo i (by omega) h0 h1
    rw [encTo_succ, dec_snoc, hm]
    have e : 56 - 8 * i = 64 - 8 * (i + 1) := by omega
    unfold byteAt
    rw [e]
    have e1 : (2 : Int) ^ (64 - 8 * i) = (2 : Int) ^ (64 - 8 * (i + 1)) * 256 := by
      have : 64 - 8 * i = (64 - 8 * (i + 1)) + 8 := by omega
      rw [this, Int.pow_add]; rfl
    have e2 : x / (2 : Int) ^ (64 - 8 * i) = x / (2 : Int) ^ (64 - 8 * (i + 1)) / 256 := by
      rw [e1, Int.ediv_ediv_of_nonneg (Int.le_of_lt (Int.pow_pos (by decide)))]
    rw [e2]
    obtain ⟨y, hy⟩ : ∃ y, x / (2 : Int) ^ (64 - 8 * (i + 1)) = y := ⟨_, rfl⟩
    rw [hy]
    have e3 : (2 : Int) ^ (8 * (i + 1)) = (2 : Int) ^ (8 * i) * 256 := by
      have : 8 * (i + 1) = 8 * i + 8 := by omega
      rw [this, Int.pow_add]; rfl
    have e4 : (18446744073709551616 : Int) = (2 : Int) ^ (64 - 8 * (i + 1)) * (2 : Int) ^ (8 * (i + 1)) := by
      rw [← Int.pow_add]
      have : 64 - 8 * (i + 1) + 8 * (i + 1) = 64 := by omega
      rw [this]; decide
    obtain ⟨z, hz⟩ : ∃ z, (y / 256 + m * (2 : Int) ^ (8 * i)) * 256 + y % 256 = z := ⟨_, rfl⟩
    have hz' : z = y + m * (2 : Int) ^ (8 * (i + 1)) := by
      rw [e3, ← hz, Int.add_mul, ← Int.mul_assoc]
      omega
    rw [hz]
    obtain ⟨q, hq⟩ : ∃ q, wrap64 z = z + q * 18446744073709551616 := by
      refine ⟨- ((z + 9223372036854775808) / 18446744073709551616), ?_⟩
      unfold wrap64
      omega
    refine ⟨m + q * (2 : Int) ^ (64 - 8 * (i + 1)), ?_⟩
    rw [hq, hz', e4, Int.add_mul, ← Int.mul_assoc]
    omega

theorem dec_enc8 {x : Int} (h0 : -9223372036854775808 ≤ x) (h1 : x ≤ 9223372036854775807) : dec (enc8 x) = x := by
  obtain ⟨m, hm⟩ := dec_encTo 8 (Nat.le_refl _) h0 h1
  have hb := dec_bounds (encTo x 8)
  have e1 : (2 : Int) ^ (64 - 8 * 8) = 1 := by decide
  have e2 : (2 : Int) ^ (8 * 8) = 18446744073709551616 := by decide
  rw [e1, e2, Int.ediv_one] at hm
  unfold enc8
  omega

theorem take8 (x : Int) (r : List Int) : (enc8 x ++ r).take 8 = enc8 x := List.take_left' (enc8_length x)
theorem drop8 (x : Int) (r : List Int) : (enc8 x ++ r).drop 8 = r := List.drop_left' (enc8_length x)

theorem nums_enc : ∀ (ws : List Int) (r : List Int), (∀ v ∈ ws, (Lit.int .i64 v).wf = true) → nums ws.length (ws.flatMap enc8 ++ r) = ws
  | [], _, _ => rfl
  | v :: ws, r, h => by
    have ih := nums_enc ws r fun v hv => h v (List.mem_cons_of_mem _ hv)
    have hv := h v (List.mem_cons_self ..)
    unfold Lit.wf at hv
    rw [Bool.and_eq_true, decide_eq_true_eq, decide_eq_true_eq] at hv
    have hv' : -9223372036854775808 ≤ v ∧ v ≤ 9223372036854775807 := hv
    have h1 : dec (((enc8 v ++ (ws.flatMap enc8 ++ r)).drop (8 * 0)).take 8) = v := by
      rw [List.drop_zero, take8, dec_enc8 hv'.1 hv'.2]
    have h2 : ∀ j, dec (((enc8 v ++ (ws.flatMap enc8 ++ r)).drop (8 * (j + 1))).take 8) = dec (((ws.flatMap enc8 ++ r).drop (8 * j)).take 8) := fun j => by
      rw [show 8 * (j + 1) = 8 + 8 * j by omega, ← List.drop_drop, drop8]
    unfold nums at ih ⊢
    rw [List.length_cons, List.range_succ_eq_map, List.map_cons, List.map_map, List.flatMap_cons, List.append_assoc, h1]
    refine congrArg (v :: ·) (Eq.trans (List.map_congr_left fun j _ => h2 j) ih)

theorem bim_used {b : Blk} (h : b.used = true) : bim b = enc8 b.size ++ (enc8 1 ++ b.ws.flatMap enc8) := by unfold bim; rw [h]; rfl
theorem bim_free {b : Blk} (h : b.used = false) : bim b = enc8 b.size ++ enc8 0 := by unfold bim; rw [h]; rfl

theorem parse_bim {pv : Option Bool} {left : Int} {b : Blk} (r : List Int) (hg : Good b) (h32 : b.size ≤ 32000) (hl : (b.size : Int) ≤ left) (hp : b.used = false → pv ≠ some false) :
    parse pv left (bim b ++ r) = .ok (b.size, b.used, b.ws, r) := by
  have h2 := hg.two
  have he := hg.even
  have e0 : dec (enc8 (b.size : Int)) = b.size := dec_enc8 (by omega) (by omega)
  have e1 : dec (enc8 1) = 1 := dec_enc8 (by omega) (by omega)
  have e2 : dec (enc8 0) = 0 := dec_enc8 (by omega) (by omega)
  cases hu : b.used with
  | false =>
    rw [bim_free hu, List.append_assoc]
    unfold parse
    rw [take8, drop8, e0, take8, drop8, e2]
    rw [if_neg (by rw [List.length_append, List.length_append, enc8_length]; omega), if_neg (by omega)]
    rw [if_neg (by rw [List.length_append, enc8_length]; omega), if_neg (by
      rintro (q | q | q)
      · omega
      · omega
      · exact hp hu q.2), if_neg (by omega), hg.bare hu]
  | true =>
    have hf := hg.full hu
    rw [bim_used hu, List.append_assoc, List.append_assoc]
    unfold parse
    rw [take8, drop8, e0, take8, drop8, e1]
    rw [if_neg (by rw [List.length_append, List.length_append, enc8_length]; omega), if_neg (by omega)]
    rw [if_neg (by rw [List.length_append, enc8_length]; omega), if_neg (by
      rintro (q | q | q)
      · omega
      · omega
      · exact q.1 rfl), if_pos rfl]
    have hn : (b.size : Int).toNat - 1 = b.ws.length := by omega
    rw [hn, nums_enc _ _ hg.wf, if_neg (by rw [List.length_append, flat8_length]; omega), List.drop_left' (flat8_length _)]

theorem blocksIn_step {f : Nat} {pv : Option Bool} {left size : Int} {l ws r r' : List Int} {used : Bool} {S : St} (h0 : ¬ left ≤ 0) (hp : parse pv left l = .ok (size, used, ws, r)) (hb : blocksIn f (some used) (left - size) r = .ok (S, r')) :
    blocksIn (f + 1) pv left l = .ok (⟨size.toNat, used, ws⟩ :: S, r') := by
  unfold blocksIn
  rw [if_neg h0, hp]
  simp only [hb]

theorem blocksIn_image (r : List Int) : ∀ (S : St) (f : Nat) (pv : Option Bool), (∀ b ∈ S, Good b) → Norm S → sz S ≤ 32000 → (∀ b R, S = b :: R → b.used = false → pv ≠ some false) → S.length < f →
    blocksIn f pv (sz S) (S.flatMap bim ++ r) = .ok (S, r) := by
  intro S
  induction S with
  | nil =>
    intro f pv _ _ _ _ hf
    obtain ⟨f', rfl⟩ : ∃ f', f = f' + 1 := ⟨f - 1, by simp at hf; omega⟩
    unfold blocksIn
    rw [if_pos (by simp [sz])]; rfl
  | cons b S ih =>
    intro f pv hg hn h32 hp hf
    obtain ⟨f', rfl⟩ : ∃ f', f = f' + 1 := ⟨f - 1, by simp at hf; omega⟩
    have hgb := hg b (List.mem_cons_self ..)
    have h2 := hgb.two
    have hsz : sz (b :: S) = b.size + sz S := rfl
    rw [hsz] at h32 ⊢
    rw [norm_cons] at hn
    have e : ((b.size + sz S : Nat) : Int) - (b.size : Int) = (sz S : Nat) := by omega
    have hp1 := parse_bim (left := ((b.size + sz S : Nat) : Int)) (S.flatMap bim ++ r) hgb (by omega) (by omega) (hp b S rfl)
    have ih1 := ih f' (some b.used) (fun c hc => hg c (List.mem_cons_of_mem _ hc)) hn.2 (by omega) (fun c R e hc q => hn.1 c R e ⟨by injection q, hc⟩) (by rw [List.length_cons] at hf; omega)
    rw [List.flatMap_cons, List.append_assoc]
    exact blocksIn_step (by omega) hp1 (e ▸ ih1)

theorem restore_enc {x : Int} (r : List Int) (h0 : -9223372036854775808 ≤ x) (h1 : x ≤ 9223372036854775807) (hv : 4 ≤ x ∧ x ≤ 32000 ∧ x % 2 = 0) {S : St} (hb : blocksIn (x.toNat + 1) none x r = .ok (S, [])) : restore (enc8 x ++ r) = .ok (x, S) := by
  have e0 : dec (enc8 x) = x := dec_enc8 h0 h1
  unfold restore
  rw [take8, drop8, e0, if_neg (by rw [List.length_append, enc8_length]; omega), if_neg (fun q => q hv), hb]
  exact if_pos rfl

theorem restore_image {n : Nat} {S : St} (h : Ok n S) : restore (image n S) = .ok (n, S) := by
  have hlo := h.lo
  have hhi := h.hi
  have hev := h.even
  have hsz := h.sum
  have hlen := two_le h.good
  have hb := blocksIn_image [] S ((n : Int).toNat + 1) none h.good h.norm (by omega) (fun b R _ _ => nofun) (by omega)
  rw [List.append_nil, hsz] at hb
  exact restore_enc _ (by omega) (by omega) ⟨by omega, by omega, by omega⟩ hb

theorem image_bytes (n : Nat) (S : St) : ∀ x ∈ image n S, 0 ≤ x ∧ x < 256 := by
  have he : ∀ (v : Int), ∀ x ∈ enc8 v, 0 ≤ x ∧ x < 256 := fun v x hx => by
    unfold enc8 encTo at hx
    obtain ⟨i, -, rfl⟩ := List.mem_map.1 hx
    unfold byteAt
    omega
  intro x hx
  unfold image at hx
  rcases List.mem_append.1 hx with hx | hx
  · exact he _ x hx
  · obtain ⟨b, -, hb⟩ := List.mem_flatMap.1 hx
    unfold bim at hb
    rcases List.mem_append.1 hb with hb | hb
    · exact he _ x hb
    · cases hu : b.used with
      | false => rw [hu, if_neg (by simp)] at hb; exact he _ x hb
      | true =>
        rw [hu, if_pos rfl] at hb
        rcases List.mem_append.1 hb with hb | hb
        · exact he _ x hb
        · obtain ⟨z, -, hz⟩ := List.mem_flatMap.1 hb
          exact he _ x hz

theorem image_length {n : Nat} {S : St} (h : Ok n S) : 8 ≤ (image n S).length ∧ (image n S).length ≤ 1000000000 := by
  have key : ∀ T : St, (∀ b ∈ T, Good b) → (T.flatMap bim).length ≤ 16 * sz T := by
    intro T
    induction T with
    | nil => intro _; simp [sz]
    | cons b T ih =>
      intro hg
      have h1 := ih fun c hc => hg c (List.mem_cons_of_mem _ hc)
      have hb := hg b (List.mem_cons_self ..)
      have h2 := hb.two
      have h3 : (bim b).length ≤ 16 * b.size := by
        unfold bim
        rw [List.length_append, enc8_length]
        cases hu : b.used with
        | false => rw [if_neg (by simp), enc8_length]; omega
        | true =>
          rw [if_pos rfl, List.length_append, enc8_length, flat8_length]
          have := hb.full hu
          omega
      rw [List.flatMap_cons, List.length_append]
      simp only [sz]
      omega
  have h1 := key S h.good
  have h2 : sz S = n := h.sum
  have h3 : n ≤ 32000 := h.hi
  unfold image
  rw [List.length_append, enc8_length]
  omega
end Go.Sto

/-
  What Restore reads, Image writes again: plain laws.
-/
namespace Go.Sto
open Go.RowKit

theorem foldl_wrap : ∀ (l : List Int) (v v' q0 : Int), v = v' + q0 * 18446744073709551616 → ∃ q : Int, l.foldl (fun v c => wrap64 (v * 256 + c)) v = l.foldl (fun v c => v * 256 + c) v' + q * 18446744073709551616
  | [], _, _, q0, h => ⟨q0, h⟩
  | c :: l, v, v', q0, h => by
    have hw : wrap64 (v * 256 + c) = (v' * 256 + c) + (q0 * 256 - ((v * 256 + c + 9223372036854775808) / 18446744073709551616)) * 18446744073709551616 := by
      unfold wrap64; subst h; omega
    exact foldl_wrap l _ _ _ hw

theorem digit {hi c lo K x : Int} (hx : x = lo + (hi * 256 + c) * K) (hK : 0 < K) (h0 : 0 ≤ lo) (h1 : lo < K) (c0 : 0 ≤ c) (c1 : c < 256) : x / K % 256 = c := by
  rw [hx, Int.add_mul_ediv_right _ _ (by omega), Int.ediv_eq_zero_of_lt h0 h1]
  omega

theorem enc8_dec {l : List Int} (hl : l.length = 8) (hb : ∀ x ∈ l, 0 ≤ x ∧ x < 256) : enc8 (dec l) = l := by
  match l, hl with
  | [a, b, c, d, e, f, g, h], _ =>
    obtain ⟨q, hq⟩ := foldl_wrap [a, b, c, d, e, f, g, h] 0 0 0 (by omega)
    obtain ⟨x, hx⟩ : ∃ x, dec [a, b, c, d, e, f, g, h] = x := ⟨_, rfl⟩
    have hq' : x = [a, b, c, d, e, f, g, h].foldl (fun v c => v * 256 + c) 0 + q * 18446744073709551616 := hx.symm.trans hq
    simp only [List.foldl_cons, List.foldl_nil] at hq'
    have ha := hb a (by simp)
    have hb' := hb b (by simp)
    have hc := hb c (by simp)
    have hd := hb d (by simp)
    have he := hb e (by simp)
    have hf := hb f (by simp)
    have hg := hb g (by simp)
    have hh := hb h (by simp)
    rw [hx]
    clear hx hq hb
    have k0 : x / (2 : Int) ^ (56 - 8 * 0) % 256 = a := digit (hi := q) (c := a) (lo := x - (q * 256 + a) * 72057594037927936) (K := 72057594037927936) (by omega) (by omega) (by omega) (by omega) ha.1 ha.2
    have k1 : x / (2 : Int) ^ (56 - 8 * 1) % 256 = b := digit (hi := q * 256 + a) (c := b) (lo := x - ((q * 256 + a) * 256 + b) * 281474976710656) (K := 281474976710656) (by omega) (by omega) (by omega) (by omega) hb'.1 hb'.2
    have k2 : x / (2 : Int) ^ (56 - 8 * 2) % 256 = c := digit (hi := (q * 256 + a) * 256 + b) (c := c) (lo := x - (((q * 256 + a) * 256 + b) * 256 + c) * 1099511627776) (K := 1099511627776) (by omega) (by omega) (by omega) (by omega) hc.1 hc.2
    have k3 : x / (2 : Int) ^ (56 - 8 * 3) % 256 = d := digit (hi := ((q * 256 + a) * 256 + b) * 256 + c) (c := d) (lo := x - ((((q * 256 + a) * 256 + b) * 256 + c) * 256 + d) * 4294967296) (K := 4294967296) (by omega) (by omega) (by omega) (by omega) hd.1 hd.2
    have k4 : x / (2 : Int) ^ (56 - 8 * 4) % 256 = e := digit (hi := (((q * 256 + a) * 256 + b) * 256 + c) * 256 + d) (c := e) (lo := x - (((((q * 256 + a) * 256 + b) * 256 + c) * 256 + d) * 256 + e) * 16777216) (K := 16777216) (by omega) (by omega) (by omega) (by omega) he.1 he.2
    have k5 : x / (2 : Int) ^ (56 - 8 * 5) % 256 = f := digit (hi := ((((q * 256 + a) * 256 + b) * 256 + c) * 256 + d) * 256 + e) (c := f) (lo := x - ((((((q * 256 + a) * 256 + b) * 256 + c) * 256 + d) * 256 + e) * 256 + f) * 65536) (K := 65536) (by omega) (by omega) (by omega) (by omega) hf.1 hf.2
    have k6 : x / (2 : Int) ^ (56 - 8 * 6) % 256 = g := digit (hi := (((((q * 256 + a) * 256 + b) * 256 + c) * 256 + d) * 256 + e) * 256 + f) (c := g) (lo := h) (K := 256) (by omega) (by omega) (by omega) (by omega) hg.1 hg.2
    have k7 : x / (2 : Int) ^ (56 - 8 * 7) % 256 = h := digit (hi := ((((((q * 256 + a) * 256 + b) * 256 + c) * 256 + d) * 256 + e) * 256 + f) * 256 + g) (c := h) (lo := 0) (K := 1) (by omega) (by omega) (by omega) (by omega) hh.1 hh.2
    show [byteAt x 0, byteAt x 1, byteAt x 2, byteAt x 3, byteAt x 4, byteAt x 5, byteAt x 6, byteAt x 7] = _
    unfold byteAt
    rw [k0, k1, k2, k3, k4, k5, k6, k7]

theorem split8 {l : List Int} (hl : 8 ≤ l.length) (hb : ∀ x ∈ l, 0 ≤ x ∧ x < 256) : l = enc8 (dec (l.take 8)) ++ l.drop 8 := by
  rw [enc8_dec (by rw [List.length_take]; omega) (fun x hx => hb x (List.mem_of_mem_take hx)), List.take_append_drop]

theorem nums_dec : ∀ (c : Nat) (l : List Int), 8 * c ≤ l.length → (∀ x ∈ l, 0 ≤ x ∧ x < 256) → l = (nums c l).flatMap enc8 ++ l.drop (8 * c)
  | 0, l, _, _ => by simp [nums]
  | c + 1, l, h, hb => by
    have ih := nums_dec c l (by omega) hb
    have h8 := split8 (l := l.drop (8 * c)) (by rw [List.length_drop]; omega) (fun x hx => hb x (List.mem_of_mem_drop hx))
    rw [List.drop_drop, show 8 * c + 8 = 8 * (c + 1) by omega] at h8
    rw [nums_succ, List.flatMap_append, List.append_assoc]
    have e : [dec ((l.drop (8 * c)).take 8)].flatMap enc8 = enc8 (dec ((l.drop (8 * c)).take 8)) := by simp
    rw [e, ← h8]
    exact ih

theorem parse_flat {pv : Option Bool} {left : Int} {l : List Int} {size : Int} {used : Bool} {ws r : List Int} (h : parse pv left l = .ok (size, used, ws, r)) (hb : ∀ x ∈ l, 0 ≤ x ∧ x < 256) : l = bim ⟨size.toNat, used, ws⟩ ++ r := by
  unfold parse at h
  split at h
  · cases h
  · rename_i hl
    split at h
    · cases h
    · rename_i hs
      split at h
      · cases h
      · rename_i hl1
        split at h
        · cases h
        · rename_i hf
          have h1 := split8 (l := l) (by omega) hb
          have hb1 : ∀ x ∈ l.drop 8, 0 ≤ x ∧ x < 256 := fun x hx => hb x (List.mem_of_mem_drop hx)
          have h2 := split8 (l := l.drop 8) (by omega) hb1
          have hs2 : 2 ≤ dec (l.take 8) := Int.not_lt.1 fun q => hs (.inl q)
          have hsz : ((dec (l.take 8)).toNat : Int) = dec (l.take 8) := by omega
          split at h
          · rename_i hf1
            split at h
            · cases h
            · rename_i hl3
              simp only [Except.ok.injEq, Prod.mk.injEq] at h
              obtain ⟨rfl, rfl, rfl, rfl⟩ := h
              have h3 := nums_dec ((dec (l.take 8)).toNat - 1) ((l.drop 8).drop 8) (by omega) (fun x hx => hb1 x (List.mem_of_mem_drop hx))
              rw [hf1] at h2
              rw [bim_used rfl]
              show l = enc8 ((dec (l.take 8)).toNat : Int) ++ _ ++ _
              rw [hsz, List.append_assoc, List.append_assoc, ← h3, ← h2]
              exact h1
          · rename_i hf1
            simp only [Except.ok.injEq, Prod.mk.injEq] at h
            obtain ⟨rfl, rfl, rfl, rfl⟩ := h
            have hf0 : dec ((l.drop 8).take 8) = 0 := by
              have a1 : ¬ dec ((l.drop 8).take 8) < 0 := fun q => hf (.inl q)
              have a2 : ¬ 1 < dec ((l.drop 8).take 8) := fun q => hf (.inr (.inl q))
              omega
            rw [hf0] at h2
            rw [bim_free rfl]
            show l = enc8 ((dec (l.take 8)).toNat : Int) ++ _ ++ _
            rw [hsz, List.append_assoc, ← h2]
            exact h1

theorem blocksIn_flat : ∀ (f : Nat) (pv : Option Bool) (left : Int) (l : List Int) (S : St) (r : List Int), blocksIn f pv left l = .ok (S, r) → (∀ x ∈ l, 0 ≤ x ∧ x < 256) → l = S.flatMap bim ++ r := by
  intro f
  induction f with
  | zero => intro pv left l S r h; cases h
  | succ f ih =>
    intro pv left l S r h hb
    unfold blocksIn at h
    split at h
    · simp only [Except.ok.injEq, Prod.mk.injEq] at h
      obtain ⟨rfl, rfl⟩ := h
      rfl
    · split at h
      · cases h
      · rename_i size used ws r1 hp
        split at h
        · cases h
        · rename_i S' r' hb'
          simp only [Except.ok.injEq, Prod.mk.injEq] at h
          obtain ⟨rfl, rfl⟩ := h
          have h1 := parse_flat hp hb
          have hb1 : ∀ x ∈ r1, 0 ≤ x ∧ x < 256 := fun x hx => hb x (by rw [h1]; exact List.mem_append_right _ hx)
          have h2 := ih _ _ _ _ _ hb' hb1
          rw [List.flatMap_cons, List.append_assoc, ← h2]
          exact h1

theorem restore_flat {l : List Int} {n : Int} {S : St} (h : restore l = .ok (n, S)) (hb : ∀ x ∈ l, 0 ≤ x ∧ x < 256) : l = enc8 n ++ S.flatMap bim := by
  unfold restore at h
  split at h
  · cases h
  · rename_i hl
    split at h
    · cases h
    · split at h
      · cases h
      · rename_i S' r hr
        split at h
        · rename_i hr0
          simp only [Except.ok.injEq, Prod.mk.injEq] at h
          obtain ⟨rfl, rfl⟩ := h
          have h1 := split8 (l := l) (by omega) hb
          have h2 := blocksIn_flat _ _ _ _ _ _ hr (fun x hx => hb x (List.mem_of_mem_drop hx))
          rw [hr0, List.append_nil] at h2
          rw [← h2]
          exact h1
        · cases h
end Go.Sto
