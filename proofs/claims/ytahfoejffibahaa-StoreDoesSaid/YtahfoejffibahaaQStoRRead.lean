/-
  The reference's Size, Read and Free, walked.
-/
import Derived.Test.YtahfoejffibahaaQStoRPut
import Derived.Test.YtahfoejffibahaaQStoFreeWords
import Derived.Test.YtahfoejffibahaaQStoRMake
set_option linter.unusedVariables false

namespace Go.Sto
open Go.Own Go.RowKit Go.Proofs

theorem wordsAt_idx {S : St} {i : Nat} {b : Blk} (h : S[i]? = some b) : wordsAt S i = b.ws := by unfold wordsAt; rw [drop_at h]
theorem size_none {S : St} {a : Int} (h : find a S = none) : size S a = (0, 180) := by unfold size; rw [h]
theorem size_some {S : St} {a : Int} {i : Nat} {b : Blk} (h : find a S = some i) (hb : S[i]? = some b) : size S a = (((b.ws.length : Nat) : Int), 0) := by unfold size; rw [h]; simp only [wordsAt_idx hb]
theorem read_none {S : St} {a i : Int} (h : find a S = none) : read S a i = (0, 180) := by unfold read; rw [h]
theorem read_some {S : St} {a k : Int} {i : Nat} {b : Blk} (h : find a S = some i) (hb : S[i]? = some b) : read S a k = if k < 0 ∨ b.ws.length ≤ k then (0, 1) else (b.ws.getD k.toNat 0, 0) := by unfold read; rw [h]; simp only [wordsAt_idx hb]

set_option maxRecDepth 100000 in
set_option maxHeartbeats 4000000 in
theorem rsize_calls {w : World} {v : Value} {L : List RN} {S : St} {n : Nat} (h : RC w v L S) (ok : Ok n S) (a0 : Int) :
    Calls Try.prog 61 #[.agg #[v], .int .i64 a0] w fun e w' => e = .returned (.tuple #[.int .i64 (size S a0).1, .int .i64 (size S a0).2]) ∧ Below w.heap.size w w' := by
  obtain ⟨a, cap, rfl, hn, hc, hcell⟩ := h.ref.form
  have hfd := fun (w' : World) (hB : Below w.heap.size w w') => rfind_calls (h.below hB) ok.slen.2.1 ok.slen.1 a0
  obtain ⟨f, hf⟩ : ∃ f, findV S a0 = f := ⟨_, rfl⟩
  rw [hf] at hfd
  have HF := Lib.hid hf
  have HFD := Lib.hid hfd
  have H := Lib.hid (And.intro h (And.intro ok hcell))
  clear h ok hcell hf hfd
  go_enter Try.func61, Try.ntmps61
  go_wp2_with fail
  obtain ⟨n0, hn0'⟩ : ∃ n0, w.heap.size = n0 := ⟨_, rfl⟩
  obtain ⟨w1, hw1⟩ : ∃ w1, w.alloc (.cells #[.slice a L.length cap] 59) = w1 := ⟨_, rfl⟩
  have hB1 : Below n0 w w1 := by rw [← hw1]; exact (Below.refl _ w).alloc (by omega) _
  have d0 : w1.cell? ⟨n0, 0, none⟩ = some (.slice a L.length cap) := by rw [← hw1, ← hn0']; exact cell_at (heap_alloc_new w _) rfl
  have hz1 : w1.heap.size = n0 + 1 := by rw [← hw1, ← hn0']; simp
  have hcl := HFD.out w1 (by rw [hn0']; exact hB1)
  rw [hw1, hn0']
  refine hcl.mono ?_
  rintro e wr ⟨rfl, hBr⟩
  have d0 : wr.cell? ⟨n0, 0, none⟩ = some (.slice a L.length cap) := (hBr.cell (p := ⟨n0, 0, none⟩) (by show n0 < _; omega)).trans d0
  have hB1 : Below n0 w wr := hB1.trans (hBr.mono (by omega))
  have H1 := Lib.hid (And.intro hB1 hn0')
  clear hw1 hB1 hz1 hn0' hcl hBr
  rcases hfo : find a0 S with _ | j
  · have hfv : f = -1 := by rw [← HF.out]; exact findV_none hfo
    subst hfv
    have HN := Lib.hid hfo
    clear hfo
    go_wp2
    go_ret2
    rw [size_none HN.out]
    exact ⟨rfl, by rw [H1.out.2]; exact H1.out.1⟩
  · obtain ⟨b, hb, hu, ha0⟩ := find_idx hfo
    have hfv : f = (j : Int) := by rw [← HF.out]; exact findV_some hfo
    subst hfv
    obtain ⟨x, hx, hbk⟩ := H.out.1.get' hb
    obtain ⟨bb, off, rfl, e0, e1⟩ := H.out.2.2 j x hx
    have hjl : j < L.length := (List.getElem?_eq_some_iff.1 hx).1
    have e0 : wr.cell? ⟨bb, off + j * 2, none⟩ = some (.slice x.a x.n x.cap) := (H1.out.1.cell (p := ⟨bb, off + j * 2, none⟩) (by have h : bb < w.heap.size := cell_lt e0; have := H1.out.2; show bb < n0; omega)).trans e0
    have hfull := (H.out.2.1.good b (List.mem_of_getElem? hb)).full hu
    have hsz := (H.out.2.1.slen.2.2 b (List.mem_of_getElem? hb)).2
    obtain ⟨z, hz⟩ : ∃ z, x.n = z := ⟨_, rfl⟩
    have hzs : z = b.ws.length + 1 := by rw [← hz, hbk.1]; omega
    rw [hz] at e0
    have w3 : IntKind.i64.wrap ((z : Int) - 1) = (b.ws.length : Int) := (IntWalk.i64_in _ (by omega)).trans (by omega)
    have w4 : wrap64 ((z : Int) - 1) = (b.ws.length : Int) := by unfold wrap64; omega
    have q0 : decide ((j : Int) < 0) = false := decide_eq_false (by omega)
    have HN := Lib.hid (And.intro hfo hb)
    clear hfo hb hu ha0 hx hbk hfull hsz hz hzs e1
    go_wp2
    go_ret2
    rw [size_some HN.out.1 HN.out.2]
    exact ⟨rfl, by rw [H1.out.2]; exact H1.out.1⟩

set_option maxRecDepth 100000 in
set_option maxHeartbeats 4000000 in
theorem rread_calls {w : World} {v : Value} {L : List RN} {S : St} {n : Nat} (h : RC w v L S) (ok : Ok n S) (a0 k0 : Int) :
    Calls Try.prog 60 #[.agg #[v], .int .i64 a0, .int .i64 k0] w fun e w' => e = .returned (.tuple #[.int .i64 (read S a0 k0).1, .int .i64 (read S a0 k0).2]) ∧ Below w.heap.size w w' := by
  obtain ⟨a, cap, rfl, hn, hc, hcell⟩ := h.ref.form
  have hfd := fun (w' : World) (hB : Below w.heap.size w w') => rfind_calls (h.below hB) ok.slen.2.1 ok.slen.1 a0
  obtain ⟨f, hf⟩ : ∃ f, findV S a0 = f := ⟨_, rfl⟩
  rw [hf] at hfd
  have HF := Lib.hid hf
  have HFD := Lib.hid hfd
  have H := Lib.hid (And.intro h (And.intro ok hcell))
  clear h ok hcell hf hfd
  go_enter Try.func60, Try.ntmps60
  go_wp2_with fail
  obtain ⟨n0, hn0'⟩ : ∃ n0, w.heap.size = n0 := ⟨_, rfl⟩
  obtain ⟨w1, hw1⟩ : ∃ w1, w.alloc (.cells #[.slice a L.length cap] 59) = w1 := ⟨_, rfl⟩
  have hB1 : Below n0 w w1 := by rw [← hw1]; exact (Below.refl _ w).alloc (by omega) _
  have d0 : w1.cell? ⟨n0, 0, none⟩ = some (.slice a L.length cap) := by rw [← hw1, ← hn0']; exact cell_at (heap_alloc_new w _) rfl
  have hz1 : w1.heap.size = n0 + 1 := by rw [← hw1, ← hn0']; simp
  have hcl := HFD.out w1 (by rw [hn0']; exact hB1)
  rw [hw1, hn0']
  refine hcl.mono ?_
  rintro e wr ⟨rfl, hBr⟩
  have d0 : wr.cell? ⟨n0, 0, none⟩ = some (.slice a L.length cap) := (hBr.cell (p := ⟨n0, 0, none⟩) (by show n0 < _; omega)).trans d0
  have hB1 : Below n0 w wr := hB1.trans (hBr.mono (by omega))
  have H1 := Lib.hid (And.intro hB1 hn0')
  clear hw1 hB1 hz1 hn0' hcl hBr
  rcases hfo : find a0 S with _ | j
  · have hfv : f = -1 := by rw [← HF.out]; exact findV_none hfo
    subst hfv
    have HN := Lib.hid hfo
    clear hfo
    go_wp2
    go_ret2
    rw [read_none HN.out]
    exact ⟨rfl, by rw [H1.out.2]; exact H1.out.1⟩
  · obtain ⟨b, hb, hu, ha0⟩ := find_idx hfo
    have hfv : f = (j : Int) := by rw [← HF.out]; exact findV_some hfo
    subst hfv
    obtain ⟨x, hx, hbk⟩ := H.out.1.get' hb
    obtain ⟨bb, off, rfl, e0, e1⟩ := H.out.2.2 j x hx
    have hjl : j < L.length := (List.getElem?_eq_some_iff.1 hx).1
    have e0 : wr.cell? ⟨bb, off + j * 2, none⟩ = some (.slice x.a x.n x.cap) := (H1.out.1.cell (p := ⟨bb, off + j * 2, none⟩) (by have h : bb < w.heap.size := cell_lt e0; have := H1.out.2; show bb < n0; omega)).trans e0
    have hfull := (H.out.2.1.good b (List.mem_of_getElem? hb)).full hu
    have hsz := (H.out.2.1.slen.2.2 b (List.mem_of_getElem? hb)).2
    obtain ⟨z, hz⟩ : ∃ z, x.n = z := ⟨_, rfl⟩
    obtain ⟨lw, hlw⟩ : ∃ lw, b.ws.length = lw := ⟨_, rfl⟩
    have hzs : z = lw + 1 := by rw [← hz, hbk.1]; omega
    obtain ⟨ws, hws, hwc, hwd⟩ := hbk.2.2
    have hwd := hwd hu
    rw [hz] at e0
    have w3 : IntKind.i64.wrap ((z : Int) - 1) = (lw : Int) := (IntWalk.i64_in _ (by omega)).trans (by omega)
    have w4 : wrap64 ((z : Int) - 1) = (lw : Int) := by unfold wrap64; omega
    have q0 : decide ((j : Int) < 0) = false := decide_eq_false (by omega)
    have HN := Lib.hid (And.intro hfo (And.intro hb hlw))
    by_cases hk : k0 < 0 ∨ lw ≤ k0
    · have HK := Lib.hid hk
      have f : (decide (k0 < 0) = true) ∨ (decide (k0 < 0) = false ∧ decide ((lw : Int) ≤ k0) = true) := by
        by_cases h0 : k0 < 0
        · exact .inl (by simpa using h0)
        · exact .inr ⟨by simpa using h0, by simp; omega⟩
      clear hk hfo hb hu ha0 hx hbk hfull hsz hz hzs e1 hws hwc hwd hlw
      rcases f with q1 | ⟨q1, q2⟩
      all_goals
        go_wp2
        go_ret2
        rw [read_some HN.out.1 HN.out.2.1, HN.out.2.2, if_pos HK.out]
        exact ⟨rfl, by rw [H1.out.2]; exact H1.out.1⟩
    · obtain ⟨k, rfl⟩ := Int.eq_ofNat_of_zero_le (by omega : 0 ≤ k0)
      have HK := Lib.hid hk
      have hkl : k < lw := by omega
      have hxv : SliceAt w 3 1 (.slice x.a z x.cap) (icells ws) := by rw [← hz]; exact hwc
      obtain ⟨yg, yoff, hya⟩ := SliceAt.addr hxv (by omega)
      rw [hya] at hxv e0
      obtain ⟨u, hu2⟩ : ∃ u, ws[k + 1]? = some u := ⟨_, List.getElem?_eq_getElem (by omega)⟩
      obtain ⟨p, hp⟩ : ∃ p, k + 1 = p := ⟨_, rfl⟩
      have hug : b.ws.getD k 0 = u := by
        rw [← hwd, List.getD_eq_getElem?_getD, List.getElem?_drop, Nat.add_comm 1 k, hu2]; rfl
      rw [hp] at hu2
      have c5 : w.cell? ⟨yg, yoff + p, none⟩ = some (.int .i64 u) := SliceAt.cells hxv p _ (by unfold icells; rw [List.getElem?_map, hu2]; rfl)
      have c6 : wr.cell? ⟨yg, yoff + p, none⟩ = some (.int .i64 u) := (H1.out.1.cell (p := ⟨yg, yoff + p, none⟩) (by have h : yg < w.heap.size := cell_lt c5; have := H1.out.2; show yg < n0; omega)).trans c5
      have q1 : decide ((k : Int) < 0) = false := decide_eq_false (by omega)
      have q2 : decide ((lw : Int) ≤ (k : Int)) = false := decide_eq_false (by omega)
      have q3 : decide (lw ≤ k) = false := decide_eq_false (by omega)
      have hpz : p < z := by omega
      have w5 : IntKind.i64.wrap ((k : Int) + 1) = (p : Int) := (IntWalk.i64_in _ (by omega)).trans (by omega)
      have w6 : wrap64 ((k : Int) + 1) = (p : Int) := by unfold wrap64; omega
      have HU := Lib.hid hug
      clear hk hfo hb hu ha0 hx hbk hfull hsz hz hzs e1 hws hwc hwd hlw hxv hya hu2 hp hug c5
      go_wp2
      go_ret2
      rw [read_some HN.out.1 HN.out.2.1, HN.out.2.2, if_neg HK.out]
      exact ⟨by rw [Int.toNat_natCast, HU.out]; rfl, by rw [H1.out.2]; exact H1.out.1⟩
end Go.Sto

/-
  The reference's Write and Free, walked.
-/
namespace Go.Sto
open Go.Own Go.RowKit Go.Proofs

theorem write_none {S : St} {a i v : Int} (h : find a S = none) : write S a i v = (S, 180) := by unfold write; rw [h]
theorem write_some {S : St} {a k v : Int} {i : Nat} {b : Blk} (h : find a S = some i) (hb : S[i]? = some b) : write S a k v = if k < 0 ∨ b.ws.length ≤ k then (S, 1) else (S.set i ⟨b.size, b.used, b.ws.set k.toNat v⟩, 0) := by
  unfold write; rw [h]; simp only [wordsAt_idx hb, setWords_set hb]
theorem drop1_set (ws : List Int) (k : Nat) (v : Int) : (ws.set (k + 1) v).drop 1 = (ws.drop 1).set k v := by
  cases ws with
  | nil => simp
  | cons x l => simp

def RWritePost (v0 : Value) (L0 : List RN) (S : St) (a i v : Int) (w : World) (e : Ending) (w' : World) : Prop :=
  ∃ u L, e = .returned (.tuple #[.agg #[u], .int .i64 (write S a i v).2]) ∧ RC w' u L (write S a i v).1 ∧ Below w.heap.size w w' ∧ FromOr v0 L0 w.heap.size u L

set_option maxRecDepth 100000 in
set_option maxHeartbeats 4000000 in
theorem rwrite_calls {w : World} {v : Value} {L : List RN} {S : St} {n : Nat} (h : RC w v L S) (ok : Ok n S) (a0 k0 u0 : Int) :
    Calls Try.prog 59 #[.agg #[v], .int .i64 a0, .int .i64 k0, .int .i64 u0] w (RWritePost v L S a0 k0 u0 w) := by
  obtain ⟨a, cap, rfl, hn, hc, hcell⟩ := h.ref.form
  have hfd := fun (w' : World) (hB : Below w.heap.size w w') => rfind_calls (h.below hB) ok.slen.2.1 ok.slen.1 a0
  obtain ⟨f, hf⟩ : ∃ f, findV S a0 = f := ⟨_, rfl⟩
  rw [hf] at hfd
  have HF := Lib.hid hf
  have HFD := Lib.hid hfd
  have H := Lib.hid (And.intro h (And.intro ok hcell))
  clear h ok hcell hf hfd
  go_enter Try.func59, Try.ntmps59
  go_wp2_with fail
  obtain ⟨n0, hn0'⟩ : ∃ n0, w.heap.size = n0 := ⟨_, rfl⟩
  obtain ⟨w1, hw1⟩ : ∃ w1, (w.alloc (.cells #[.slice a L.length cap] 59)).alloc (.cells #[.slice none 0 0] 59) = w1 := ⟨_, rfl⟩
  have hB1 : Below n0 w w1 := by rw [← hw1]; exact ((Below.refl _ w).alloc (by omega) _).alloc (by simp; omega) _
  have d0 : w1.cell? ⟨n0, 0, none⟩ = some (.slice a L.length cap) := by rw [← hw1, ← hn0']; exact cell_at ((heap_alloc_lt _ _ _ (by simp)).trans (heap_alloc_new w _)) rfl
  have d1 : w1.heap[n0 + 1]? = some (.cells #[.slice none 0 0] 59 (0, 0)) := by rw [← hw1, ← hn0']; have := heap_alloc_new (w.alloc (.cells #[.slice a L.length cap] 59)) (.cells #[.slice none 0 0] 59); simpa using this
  have hz1 : w1.heap.size = n0 + 2 := by rw [← hw1, ← hn0']; simp
  have hcl := HFD.out w1 (by rw [hn0']; exact hB1)
  rw [hw1, hn0']
  refine hcl.mono ?_
  rintro e wr ⟨rfl, hBr⟩
  have d0 : wr.cell? ⟨n0, 0, none⟩ = some (.slice a L.length cap) := (hBr.cell (p := ⟨n0, 0, none⟩) (by show n0 < _; omega)).trans d0
  have d1 : wr.heap[n0 + 1]? = some (.cells #[.slice none 0 0] 59 (0, 0)) := (hBr.block (n0 + 1) (by omega)).trans d1
  have hB1 : Below n0 w wr := hB1.trans (hBr.mono (by omega))
  have hz1 : n0 + 2 ≤ wr.heap.size := by have := hBr.size; omega
  have H1 := Lib.hid (And.intro hB1 (And.intro d0 (And.intro d1 (And.intro hz1 hn0'))))
  have hrb : n0 + 1 < wr.heap.size := by omega
  have r0 : wr.cell? ⟨n0 + 1, 0, none⟩ = some (.slice none 0 0) := cell_at d1 rfl
  have r1 : wr.frozen? ⟨n0 + 1, 0, none⟩ = false := frozen_at d1
  clear hw1 hB1 d1 hz1 hn0' hcl hBr
  have same : ∀ er, write S a0 k0 u0 = (S, er) → RWritePost (.slice a L.length cap) L S a0 k0 u0 w (.returned (.tuple #[.agg #[.slice a L.length cap], .int .i64 er])) (wr.setCell ⟨n0 + 1, 0, none⟩ (.slice a L.length cap)) := fun er e => by
    have hB : Below n0 w (wr.setCell ⟨n0 + 1, 0, none⟩ (.slice a L.length cap)) := H1.out.1.setCell (p := ⟨n0 + 1, 0, none⟩) (by show n0 ≤ n0 + 1; omega) _
    have hB' : Below w.heap.size w (wr.setCell ⟨n0 + 1, 0, none⟩ (.slice a L.length cap)) := by rw [H1.out.2.2.2.2]; exact hB
    exact ⟨_, L, by rw [e], by rw [e]; exact H.out.1.below hB', hB', .inl ⟨rfl, rfl⟩⟩
  have SAME := Lib.hid same
  clear same
  rcases hfo : find a0 S with _ | j
  · have hfv : f = -1 := by rw [← HF.out]; exact findV_none hfo
    subst hfv
    have HN := Lib.hid hfo
    clear hfo
    go_wp2
    (try simp only [Exit.inBlock, Exit.then]); refine bodyPost_ret (res_ct (v := .slice a L.length cap) rfl _ _ rfl (World.cell?_setCell_same' _ _ _ (by rw [r0]; rfl))) rfl ?_
    exact SAME.out 180 (write_none HN.out)
  · obtain ⟨b, hb, hu, ha0⟩ := find_idx hfo
    have hfv : f = (j : Int) := by rw [← HF.out]; exact findV_some hfo
    subst hfv
    obtain ⟨x, hx, hbk⟩ := H.out.1.get' hb
    obtain ⟨bb, off, rfl, e0, e1⟩ := H.out.2.2 j x hx
    have hjl : j < L.length := (List.getElem?_eq_some_iff.1 hx).1
    have hjS : j < S.length := (List.getElem?_eq_some_iff.1 hb).1
    have e0 : wr.cell? ⟨bb, off + j * 2, none⟩ = some (.slice x.a x.n x.cap) := (H1.out.1.cell (p := ⟨bb, off + j * 2, none⟩) (by have h : bb < w.heap.size := cell_lt e0; have := H1.out.2.2.2.2; show bb < n0; omega)).trans e0
    have hfull := (H.out.2.1.good b (List.mem_of_getElem? hb)).full hu
    have hsz := (H.out.2.1.slen.2.2 b (List.mem_of_getElem? hb)).2
    obtain ⟨z, hz⟩ : ∃ z, x.n = z := ⟨_, rfl⟩
    obtain ⟨lw, hlw⟩ : ∃ lw, b.ws.length = lw := ⟨_, rfl⟩
    have hzs : z = lw + 1 := by rw [← hz, hbk.1]; omega
    rw [hz] at e0
    have w3 : IntKind.i64.wrap ((z : Int) - 1) = (lw : Int) := (IntWalk.i64_in _ (by omega)).trans (by omega)
    have w4 : wrap64 ((z : Int) - 1) = (lw : Int) := by unfold wrap64; omega
    have q0 : decide ((j : Int) < 0) = false := decide_eq_false (by omega)
    have HN := Lib.hid (And.intro hfo (And.intro hb (And.intro hlw (And.intro hu (And.intro hjS (And.intro hfull (And.intro hsz (show z = lw + 1 ∧ b.size = z from ⟨hzs, by omega⟩))))))))
    clear hfo hb hu ha0 hx hbk hfull hsz hz hzs e1 hlw hjS
    by_cases hk : k0 < 0 ∨ lw ≤ k0
    · have HK := Lib.hid hk
      have f : (decide (k0 < 0) = true) ∨ (decide (k0 < 0) = false ∧ decide ((lw : Int) ≤ k0) = true) := by
        by_cases h0 : k0 < 0
        · exact .inl (by simpa using h0)
        · exact .inr ⟨by simpa using h0, decide_eq_true (by omega)⟩
      clear hk
      rcases f with q1 | ⟨q1, q2⟩
      all_goals
        go_wp2
        (try simp only [Exit.inBlock, Exit.then]); refine bodyPost_ret (res_ct (v := .slice (some ⟨bb, off, none⟩) L.length cap) rfl _ _ rfl (World.cell?_setCell_same' _ _ _ (by rw [r0]; rfl))) rfl ?_
        exact SAME.out 1 (by rw [write_some HN.out.1 HN.out.2.1, HN.out.2.2.1, if_pos HK.out])
    · obtain ⟨k, rfl⟩ := Int.eq_ofNat_of_zero_le (by omega : 0 ≤ k0)
      have hkl : k < lw := by omega
      have q1 : decide ((k : Int) < 0) = false := decide_eq_false (by omega)
      have q2 : decide ((lw : Int) ≤ (k : Int)) = false := decide_eq_false (by omega)
      have q3 : decide (lw ≤ k) = false := decide_eq_false (by omega)
      have HK := Lib.hid hk
      clear hk
      have HCP := Lib.hid (rcopied_calls (H.out.1.below (by rw [H1.out.2.2.2.2]; exact H1.out.1)) (fun b hb => (H.out.2.1.slen).2.2 b hb) H.out.2.1.slen.1)
      go_wp2_with fail
      refine HCP.out.mono ?_
      rintro e3 w3 ⟨tv, TL, rfl, hRT, hST, hBT⟩
      obtain ⟨ta, tcap, rfl, htn, -, htc⟩ := hRT.ref.form
      have hjt : j < TL.length := by rw [hRT.len]; exact HN.out.2.2.2.2.1
      obtain ⟨y, hy⟩ : ∃ y, TL[j]? = some y := ⟨_, List.getElem?_eq_getElem hjt⟩
      obtain ⟨tg, toff, rfl, y0, y1⟩ := htc j y hy
      have hyb := hRT.blk j y b hy HN.out.2.1
      go_upto_region 7 with fail
      obtain ⟨tb, htb⟩ : ∃ tb, w3.heap.size = tb := ⟨_, rfl⟩
      obtain ⟨W, hW⟩ : ∃ W, w3.alloc (.cells #[.slice (some ⟨tg, toff, none⟩) TL.length tcap] 59) = W := ⟨_, rfl⟩
      have tW : Turn (fun _ => False) w3 W := by rw [← hW]; exact (Turn.refl (fun _ => False) w3).alloc _
      have hzW : W.heap.size = w3.heap.size + 1 := by rw [← hW]; simp
      have zh : W.heap[tb]? = some (.cells #[.slice (some ⟨tg, toff, none⟩) TL.length tcap] 59 (0, 0)) := by rw [← hW, ← htb]; exact heap_alloc_new w3 _
      have z0 : W.cell? ⟨tb, 0, none⟩ = some (.slice (some ⟨tg, toff, none⟩) TL.length tcap) := cell_at zh rfl
      rw [hW, htb]
      have tgl : tg < w3.heap.size := cell_lt y0
      have y0 : W.cell? ⟨tg, toff + j * 2, none⟩ = some (.slice y.a y.n y.cap) := (tW.cell (p := ⟨tg, toff + j * 2, none⟩) id tgl).trans y0
      have hTW : RC W (.slice (some ⟨tg, toff, none⟩) TL.length tcap) TL S := hRT.turn tW (fun _ _ => id) (fun _ _ _ _ => id)
      obtain ⟨ws, hws, hwc, hwd⟩ := (hTW.blk j y b hy HN.out.2.1).2.2
      have hwd := hwd HN.out.2.2.2.1
      have hyn : y.n = z := by rw [hyb.1]; exact HN.out.2.2.2.2.2.2.2.2
      have hwv : SliceAt W 3 1 (.slice y.a z y.cap) (icells ws) := by rw [← hyn]; exact hwc
      obtain ⟨yg, yoff, hya⟩ := SliceAt.addr hwv (by have := HN.out.2.2.2.2.2.2.2.1; omega)
      rw [hya] at hwv
      rw [hyn, hya] at y0
      have hzz := HN.out.2.2.2.2.2.2.2
      have hwz : ws.length = z := by rw [hws]; exact hzz.2
      obtain ⟨p, hp⟩ : ∃ p, k + 1 = p := ⟨_, rfl⟩
      obtain ⟨uo, huo⟩ : ∃ u, ws[p]? = some u := ⟨_, List.getElem?_eq_getElem (by omega)⟩
      have c5 : W.cell? ⟨yg, yoff + p, none⟩ = some (.int .i64 uo) := SliceAt.cells hwv p _ (by unfold icells; rw [List.getElem?_map, huo]; rfl)
      have c6 : W.frozen? ⟨yg, yoff + p, none⟩ = false := SliceAt.frozen hwv _
      have hset := SliceAt.set hwv p (.int .i64 u0) (by simp only [icells_length]; omega)
      have hset2 : (icells ws).set p (.int .i64 u0) = icells (ws.set p u0) := by unfold icells; rw [List.map_set]
      rw [hset2] at hset
      obtain ⟨W2, hW2⟩ : ∃ W2, W.setCell ⟨yg, yoff + p, none⟩ (.int .i64 u0) = W2 := ⟨_, rfl⟩
      rw [hW2] at hset
      have t2 : Turn (fun k => k = yg) W W2 := by rw [← hW2]; exact (Turn.refl (fun k => k = yg) W).setCell (p := ⟨yg, yoff + p, none⟩) (fun _ => rfl) _
      have hyv : y.val = .slice (some ⟨yg, yoff, none⟩) z y.cap := by unfold RN.val; rw [hyn, hya]
      have hyo : y.val.ownBlock = some yg := by rw [hyv]; rfl
      have hygt : yg ≠ tg := fun e => hST.nv y (List.mem_of_getElem? hy) yg hyo (by rw [e]; rfl)
      have hygb : yg ≠ tb := fun e => (hTW.box zh).2 y (List.mem_of_getElem? hy) (by rw [hyo, e])
      have hygl : yg < W.heap.size := hTW.blt y (List.mem_of_getElem? hy) yg hyo
      have hygn : n0 + 2 ≤ yg := by have := hST.lo y (List.mem_of_getElem? hy) yg hyo; have := H1.out.2.2.2.1; omega
      have hsT : SliceAt W2 108 2 (.slice (some ⟨tg, toff, none⟩) TL.length tcap) (rcells (TL.set j y)) := by
        rw [set_selfR hy]
        exact SliceAt.turn hTW.ref t2 fun k hk e => by simp [Value.ownBlock] at hk; omega
      have hRC2 : RC W2 (.slice (some ⟨tg, toff, none⟩) TL.length tcap) TL (S.set j ⟨b.size, b.used, b.ws.set k u0⟩) := by
        have h1 := hTW.poke2 (y := y) (b' := ⟨b.size, b.used, b.ws.set k u0⟩) hsT t2 (fun j' x' hj' hx' k hk e => hST.ap.other hy hj' hx' (k := k) (by rw [hyo, e]) hk) ⟨hyb.1, hyb.2.1, ws.set p u0, by rw [List.length_set]; exact hws, by rw [hyv]; exact hset, fun _ => by rw [← hp, drop1_set, hwd]⟩
        rwa [set_selfR hy] at h1
      have hB2 : Below n0 w W2 := by
        have h2 := hBT.size
        exact (H1.out.1.trans (hBT.mono (by omega))).trans ⟨by rw [t2.os, tW.os], by rw [t2.tape, tW.tape], by rw [t2.output, tW.output], by have := t2.size; omega, fun k hk => by rw [t2.block k (by omega) (by omega), tW.block k (by omega) id]⟩
      have hr2 : W2.heap[n0 + 1]? = some (.cells #[.slice none 0 0] 59 (0, 0)) := by
        have h2 := hBT.size
        rw [t2.block (n0 + 1) (by omega) (by omega), tW.block (n0 + 1) (by omega) id, hBT.block (n0 + 1) hrb]; exact H1.out.2.2.1
      have hz2 : W2.cell? ⟨tb, 0, none⟩ = some (.slice (some ⟨tg, toff, none⟩) TL.length tcap) := (t2.cell (p := ⟨tb, 0, none⟩) (show ¬ tb = yg from fun e => hygb e.symm) (by show tb < _; omega)).trans z0
      have hpz : p < z := by omega
      have rc0 : W2.cell? ⟨n0 + 1, 0, none⟩ = some (.slice none 0 0) := cell_at hr2 rfl
      have rc1 : W2.frozen? ⟨n0 + 1, 0, none⟩ = false := frozen_at hr2
      have hk32 : k ≤ 32000 := by have := HN.out.2.2.2.2.2.2.1; omega
      have w5 : IntKind.i64.wrap ((k : Int) + 1) = (p : Int) := (IntWalk.i64_in _ (by omega)).trans (by omega)
      have w6 : wrap64 ((k : Int) + 1) = (p : Int) := by unfold wrap64; omega
      have HR := Lib.hid (And.intro hRC2 (And.intro hB2 (And.intro (hRC2.box hr2) (hST.mono (by have := H1.out.2.2.2.1; omega : n0 ≤ _)))))
      have HW2 := Lib.hid hW2
      clear hW2 hRC2 hB2 hr2 hsT hygn hygl hygb hygt hyo hyv t2 hset hset2 huo hp hwz hzz hya hwv hyn hwd hws hwc hTW hyb hy htc htn hRT hST hBT HCP tW hzW zh hW htb y1 r0 r1 d0 tgl e0 q1 q2 q3
      go_upto_region 8 with fail
      rw [HW2.out]
      clear z0 y0 c5 c6 w5 w6
      go_wp2
      (try simp only [Exit.inBlock, Exit.then]); refine bodyPost_ret (res_ct (v := .slice (some ⟨tg, toff, none⟩) TL.length tcap) rfl _ _ rfl (World.cell?_setCell_same' _ _ _ (by rw [rc0]; rfl))) rfl ?_
      have e : write S a0 k u0 = (S.set j ⟨b.size, b.used, b.ws.set k u0⟩, 0) := by rw [write_some HN.out.1 HN.out.2.1, HN.out.2.2.1, if_neg HK.out, Int.toNat_natCast]
      have t5 : Turn (fun k => k = n0 + 1) W2 (W2.setCell ⟨n0 + 1, 0, none⟩ (.slice (some ⟨tg, toff, none⟩) TL.length tcap)) := (Turn.refl (fun k => k = n0 + 1) W2).setCell (p := ⟨n0 + 1, 0, none⟩) (fun _ => rfl) _
      have hbx := HR.out.2.2.1
      have hB : Below n0 w (W2.setCell ⟨n0 + 1, 0, none⟩ (.slice (some ⟨tg, toff, none⟩) TL.length tcap)) := HR.out.2.1.setCell (p := ⟨n0 + 1, 0, none⟩) (by show n0 ≤ n0 + 1; omega) _
      exact ⟨_, TL, by rw [e]; rfl, by rw [e]; exact HR.out.1.turn t5 (fun k hk e => hbx.1 (by rw [hk, e])) (fun y hy k hk e => hbx.2 y hy (by rw [hk, e])), by rw [H1.out.2.2.2.2]; exact hB, .inr (by rw [H1.out.2.2.2.2]; exact HR.out.2.2.2)⟩
end Go.Sto
