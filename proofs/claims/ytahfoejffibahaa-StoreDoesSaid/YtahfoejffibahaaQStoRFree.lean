/-
  The reference's Free, walked.
-/
import Derived.Deep.LoopGhost
import Derived.Test.YtahfoejffibahaaQStoRRead
import Derived.Test.YtahfoejffibahaaQStoImg
set_option linter.unusedVariables false

namespace Go.Sto
open Go.Own Go.RowKit Go.Proofs

theorem free_take {S : St} {j : Nat} {b : Blk} (hb : S[j]? = some b) : S.take (j + 1) = S.take j ++ [b] := by rw [List.take_add_one, hb]; rfl
theorem sz_take_le (S : St) (i : Nat) : sz (S.take i) ≤ sz S := by
  have h : sz (S.take i ++ S.drop i) = sz (S.take i) + sz (S.drop i) := sz_append _ _
  rw [List.take_append_drop] at h
  omega

set_option maxRecDepth 100000 in
set_option maxHeartbeats 4000000 in
theorem rfree_calls {w : World} {v : Value} {L : List RN} {S : St} {n : Nat} (h : RC w v L S) (ok : Ok n S) :
    Calls Try.prog 34 #[.agg #[v]] w fun e w' => e = .returned (.tuple #[.int .i64 (freeWords S), .int .i64 (largest S)]) ∧ Below w.heap.size w w' := by
  obtain ⟨a, cap, rfl, hn, hc, hcell⟩ := h.ref.form
  have hll : L.length ≤ 16000 := by rw [h.len]; exact ok.slen.1
  have H := Lib.hid (And.intro h (And.intro ok hcell))
  clear h ok hcell
  go_enter Try.func34, Try.ntmps34
  go_wp2
  obtain ⟨n0, hn0'⟩ : ∃ n0, w.heap.size = n0 := ⟨_, rfl⟩
  obtain ⟨w1, hw1⟩ : ∃ w1, w.alloc (.cells #[.slice a L.length cap] 59) = w1 := ⟨_, rfl⟩
  have hB1 : Below n0 w w1 := by rw [← hw1]; exact (Below.refl _ w).alloc (by omega) _
  have d0 : w1.cell? ⟨n0, 0, none⟩ = some (.slice a L.length cap) := by rw [← hw1, ← hn0']; exact cell_at (heap_alloc_new w _) rfl
  rw [hw1, hn0']
  have H1 := Lib.hid (And.intro hB1 (And.intro d0 hn0'))
  clear hw1 hn0' hB1 d0
  go_loopg [2, 3, 4] (L.length) (fun k x y i wx => k ≤ L.length ∧ i = .int .i64 ((L.length - k : Nat) : Int) ∧ x = .int .i64 (freeWords (S.take (L.length - k)) : Nat) ∧ y = .int .i64 (largest (S.take (L.length - k)) : Nat) ∧ wx = w1)
  case atStart => exact ⟨Nat.le_refl _, by simp, by simp [freeWords], by simp [largest], rfl⟩
  case round =>
    obtain ⟨hk, rfl, rfl, rfl, rfl⟩ := hrel
    obtain ⟨j, hj⟩ : ∃ j, L.length - gk = j := ⟨_, rfl⟩
    rw [hj]
    have c0 := H1.out.2.1
    by_cases hlt : j < L.length
    · obtain ⟨x, hx⟩ : ∃ x, L[j]? = some x := ⟨_, List.getElem?_eq_getElem hlt⟩
      obtain ⟨b, hb, hbk⟩ := H.out.1.get hx
      obtain ⟨bb, off, rfl, e0, e1⟩ := H.out.2.2 j x hx
      have hbn : bb < n0 := by have h : bb < w.heap.size := cell_lt e0; have := H1.out.2.2; omega
      have e0 : wr.cell? ⟨bb, off + j * 2, none⟩ = some (.slice x.a x.n x.cap) := (H1.out.1.cell (p := ⟨bb, off + j * 2, none⟩) hbn).trans e0
      have e1 : wr.cell? ⟨bb, off + j * 2 + 1, none⟩ = some (.bool x.u) := (H1.out.1.cell (p := ⟨bb, off + j * 2 + 1, none⟩) hbn).trans e1
      have hbs := H.out.2.1.slen.2.2 b (List.mem_of_getElem? hb)
      have f1 := freeWords_le (S.take j)
      have f2 := largest_le (S.take j)
      have f3 := sz_take_le S j
      have f4 := H.out.2.1.slen.2.1
      obtain ⟨fw, hfw⟩ : ∃ fw, freeWords (S.take j) = fw := ⟨_, rfl⟩
      obtain ⟨lg, hlg⟩ : ∃ lg, largest (S.take j) = lg := ⟨_, rfl⟩
      rw [hfw] at f1 ⊢
      rw [hlg] at f2 ⊢
      obtain ⟨z, hz⟩ : ∃ z, x.n = z := ⟨_, rfl⟩
      have hzb : z = b.size := by rw [← hz]; exact hbk.1
      rw [hz] at e0
      have hxu := hbk.2.1
      have hfw32 : fw ≤ 32000 := by omega
      have hlg32 : lg ≤ 32000 := by omega
      have hz1 : 1 ≤ z ∧ z ≤ 32000 := by omega
      cases hu : b.used with
      | true =>
        rw [hxu, hu] at e1
        have HX := Lib.hid (And.intro hj (And.intro hb (And.intro hfw (And.intro hlg hu))))
        clear hj hb hfw hlg hu hxu hz hzb f1 f2 f3 f4 hbs hbk hx hz1
        go_wp2
        go_roundg (gk - 1)
        case measure => have := HX.out.1; omega
        case rel =>
          have hjj := HX.out.1
          have e3 : L.length - (gk - 1) = j + 1 := by omega
          rw [e3, free_take HX.out.2.1, freeWords_snoc_used _ HX.out.2.2.2.2, largest_snoc_used _ HX.out.2.2.2.2, HX.out.2.2.1, HX.out.2.2.2.1]
          exact ⟨by omega, by go_num, rfl, rfl, rfl⟩
      | false =>
        rw [hxu, hu] at e1
        obtain ⟨z1, hz1e⟩ : ∃ z1, z - 1 = z1 := ⟨_, rfl⟩
        have w3 : IntKind.i64.wrap ((z : Int) - 1) = (z1 : Int) := (IntWalk.i64_in _ (by omega)).trans (by omega)
        have w4 : wrap64 ((z : Int) - 1) = (z1 : Int) := by unfold wrap64; omega
        obtain ⟨w5, w6⟩ := wrap_sum' fw z (by omega)
        have HX := Lib.hid (And.intro hj (And.intro hb (And.intro hfw (And.intro hlg (And.intro hu (And.intro hzb hz1e))))))
        clear hj hb hfw hlg hu hxu hz hzb f1 f2 f3 f4 hbs hbk hx hz1 hz1e
        go_wp2
        all_goals
          rename_i hmx
          go_roundg (gk - 1)
          case measure => have := HX.out.1; omega
          case rel =>
            have hjj := HX.out.1
            have e3 : L.length - (gk - 1) = j + 1 := by omega
            rw [e3, free_take HX.out.2.1, freeWords_snoc_free _ HX.out.2.2.2.2.1, largest_snoc_free _ HX.out.2.2.2.2.1, HX.out.2.2.1, HX.out.2.2.2.1, ← HX.out.2.2.2.2.2.1, HX.out.2.2.2.2.2.2]
            first
              | (rw [Nat.max_eq_right (by omega)]; exact ⟨by omega, by go_num, by go_num, rfl, rfl⟩)
              | (rw [Nat.max_eq_left (by omega)]; exact ⟨by omega, by go_num, by go_num, rfl, rfl⟩)
    · obtain rfl : j = L.length := by omega
      have hp : S.take L.length = S := by rw [H.out.1.len, List.take_length]
      have HP := Lib.hid hp
      clear hp hj
      go_wp2
      go_ret2
      rw [HP.out]
      exact ⟨rfl, by rw [H1.out.2.2]; exact H1.out.1⟩
end Go.Sto

/-
  The reference's eight, walked.
-/
namespace Go.Sto
open Go.Own Go.RowKit Go.Proofs

theorem make_eight (w : World) : (Instr.makeSlice 53 (.int .i64 8) (.int .i64 8)).run Try.prog w = .ok (.slice (some ⟨w.heap.size, 0, none⟩) 8 8) (w.alloc (.cells (bcells (zeros 8)).toArray 5)) := by
  obtain ⟨⟨i, hi, hz, h1, h2⟩, -, -⟩ := elemU8
  have := Go.run_make (P := Try.prog) w 53 5 i (.int .u8 0) Try.underlying53 hi hz .i64 .i64 8 8 (by omega) (by omega) (by rw [h2]; omega) (by omega)
  refine Eq.trans this ?_
  rw [h1]
  have : madeCells (Value.int .u8 0).cells (8 * 1) = (bcells (zeros 8)).toArray := by kernel_rfl
  show Result.ok (Value.slice (some ⟨w.heap.size, 0, none⟩) 8 8) (w.alloc (Obj.cells (madeCells (Value.int .u8 0).cells (8 * 1)) 5)) = _
  rw [this]

/-- The bytes behind d rounds, from the last one on. -/
def eb (x : Int) (d : Nat) : List Int := (List.range 8).map fun p => if 8 - d ≤ p then byteAt x p else 0
theorem eb_length (x : Int) (d : Nat) : (eb x d).length = 8 := by simp [eb]
theorem eb_zero (x : Int) : eb x 0 = zeros 8 := by
  unfold eb zeros
  apply List.ext_getElem?
  intro i
  simp only [List.getElem?_map, List.getElem?_replicate]
  by_cases h : i < 8
  · rw [List.getElem?_range h, if_pos h]; simp; intro; omega
  · rw [List.getElem?_eq_none (by simp; omega), if_neg h]; rfl
theorem eb_full (x : Int) : eb x 8 = enc8 x := by
  unfold eb enc8 encTo
  apply List.map_congr_left
  intro p _
  rw [if_pos (by omega)]
theorem eb_next (x : Int) (d : Nat) (hd : d < 8) : (eb x d).set (7 - d) ((x / (2 : Int) ^ (8 * d)) % 256) = eb x (d + 1) := by
  apply List.ext_getElem?
  intro i
  rw [List.getElem?_set]
  unfold eb
  by_cases hi : 7 - d = i
  · subst hi
    rw [if_pos rfl, if_pos (by simp; omega), List.getElem?_map, List.getElem?_range (by omega)]
    simp only [Option.map_some]
    rw [if_pos (by omega)]
    unfold byteAt
    rw [show 56 - 8 * (7 - d) = 8 * d by omega]
  · rw [if_neg hi, List.getElem?_map, List.getElem?_map]
    by_cases h : i < 8
    · rw [List.getElem?_range h]
      simp only [Option.map_some, Option.some.injEq]
      by_cases h2 : 8 - d ≤ i
      · rw [if_pos h2, if_pos (by omega)]
      · rw [if_neg h2, if_neg (by omega)]
    · rw [List.getElem?_eq_none (by simp; omega)]; rfl
theorem shift8 (x : Int) (d : Nat) : x / (2 : Int) ^ (8 * d) / 256 = x / (2 : Int) ^ (8 * (d + 1)) := by
  rw [Int.ediv_ediv_of_nonneg (by exact Int.le_of_lt (Int.pow_pos (by decide)))]
  congr 1
  rw [show 8 * (d + 1) = 8 * d + 8 by omega, Int.pow_add]
  rfl

set_option maxRecDepth 100000 in
set_option maxHeartbeats 4000000 in
theorem reight_calls (x : Int) (w : World) :
    Calls Try.prog 73 #[.int .i64 x] w fun e w' => ∃ v, e = .returned v ∧ SliceAt w' 5 1 v (bcells (enc8 x)) ∧ Below w.heap.size w w' ∧ ∀ k, v.ownBlock = some k → w.heap.size ≤ k := by
  go_enter Try.func73, Try.ntmps73
  go_wp2_with fail
  rw [make_eight w]
  go_wp2_with fail
  obtain ⟨g, hg⟩ : ∃ g, w.heap.size = g := ⟨_, rfl⟩
  obtain ⟨w1, hw1⟩ : ∃ w1, w.alloc (.cells (bcells (zeros 8)).toArray 5) = w1 := ⟨_, rfl⟩
  have hB1 : Below g w w1 := by rw [← hw1]; exact (Below.refl _ w).alloc (by omega) _
  have hS1 : SliceAt w1 5 1 (.slice (some ⟨g, 0, none⟩) 8 8) (bcells (zeros 8)) := by
    have hh : w1.heap[g]? = some (.cells (bcells (zeros 8)).toArray 5 (0, 0)) := by rw [← hw1, ← hg]; exact heap_alloc_new w _
    have := SliceAt.made (sz := 1) hh (n := 8) (by simp [bcells, zeros]) (by unfold maxLen; omega)
    simpa using this
  rw [hw1, hg]
  have H1 := Lib.hid (And.intro hB1 (And.intro hg hS1))
  clear hw1 hg hB1 hS1
  go_loopg [0, 4] (8) (fun k nv iv wx => k ≤ 8 ∧ iv = .int .i64 ((k : Int) - 1) ∧ nv = .int .i64 (x / (2 : Int) ^ (8 * (8 - k))) ∧ SliceAt wx 5 1 (.slice (some ⟨g, 0, none⟩) 8 8) (bcells (eb x (8 - k))) ∧ Turn (fun k => k = g) w1 wx)
  case atStart => exact ⟨Nat.le_refl _, rfl, by simp, by rw [Nat.sub_self, eb_zero]; exact H1.out.2.2, Turn.refl _ _⟩
  case round =>
    obtain ⟨hk, rfl, rfl, hS, hT⟩ := hrel
    rcases gk with _ | q
    · have hS' : SliceAt wr 5 1 (.slice (some ⟨g, 0, none⟩) 8 8) (bcells (enc8 x)) := by rw [← eb_full]; exact hS
      have HS := Lib.hid (And.intro hS' hT)
      clear hS hS' hT
      go_wp2
      go_ret
      refine ⟨_, rfl, HS.out.1, ?_, fun k hk => by have := H1.out.2.1; simp [Value.ownBlock] at hk; omega⟩
      have h1 := H1.out.1
      have h2 := HS.out.2
      rw [H1.out.2.1]
      exact h1.trans ⟨h2.os, h2.tape, h2.output, h2.size, fun k hk => h2.block k (by have := h1.size; have := H1.out.2.1; omega) (by omega)⟩
    · have hq : q < 8 := by omega
      have e1 : ((q + 1 : Nat) : Int) - 1 = (q : Int) := by omega
      rw [e1]
      obtain ⟨d, hd⟩ : ∃ d, 8 - (q + 1) = d := ⟨_, rfl⟩
      rw [hd] at hS ⊢
      have hqd : q = 7 - d := by omega
      obtain ⟨N, hN⟩ : ∃ N, x / (2 : Int) ^ (8 * d) = N := ⟨_, rfl⟩
      have hset := SliceAt.set hS q (.int .u8 (N % 256)) (by rw [bcells_length, eb_length]; exact hq)
      have hset2 : (bcells (eb x d)).set q (.int .u8 (N % 256)) = bcells (eb x (d + 1)) := by
        rw [← eb_next x d (by omega), ← hqd, hN]; unfold bcells; rw [List.map_set]
      rw [hset2, Nat.zero_add] at hset
      obtain ⟨uo, huo⟩ : ∃ u, (eb x d)[q]? = some u := ⟨_, List.getElem?_eq_getElem (by rw [eb_length]; exact hq)⟩
      have c0 : wr.cell? ⟨g, q, none⟩ = some (.int .u8 uo) := by have := SliceAt.cells hS q (.int .u8 uo) (by unfold bcells; rw [List.getElem?_map, huo]; rfl); rwa [Nat.zero_add] at this
      have c1 : wr.frozen? ⟨g, q, none⟩ = false := SliceAt.frozen hS _
      have hsh := shift8 x d
      rw [hN] at hsh ⊢
      have HF := Lib.hid (And.intro hset (And.intro (hT.setCell (p := ⟨g, q, none⟩) (fun _ => rfl) (.int .u8 (N % 256))) (And.intro hd hsh)))
      clear hset hset2 hS hT huo hd hqd hsh hN e1
      go_wp2
      go_roundg q
      case measure => omega
      case rel =>
        have e2 : 8 - q = d + 1 := by have := HF.out.2.2.1; omega
        rw [e2]
        exact ⟨by omega, by first | rfl | go_num, by rw [← HF.out.2.2.2], HF.out.1, HF.out.2.1⟩
end Go.Sto
