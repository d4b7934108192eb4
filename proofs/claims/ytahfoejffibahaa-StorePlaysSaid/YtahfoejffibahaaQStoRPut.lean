/-
  The reference's Put, walked.
-/
import Derived.Test.YtahfoejffibahaaQStoRGet
set_option linter.unusedVariables false

namespace Go.Sto
open Go.Own Go.RowKit Go.Proofs

theorem find_idx {S : St} {a : Int} {i : Nat} (h : find a S = some i) : ∃ b, S[i]? = some b ∧ b.used = true ∧ (sz (S.take i) : Int) + 1 = a := by
  obtain ⟨A, x, B, rfl, rfl, hx, -⟩ := hit_some h
  refine ⟨x, by simp, ?_, ?_⟩
  · unfold isAt at hx; simp at hx; exact hx.1
  · unfold isAt at hx; simp at hx; simp; exact hx.2
theorem put_none {S : St} {a : Int} (h : find a S = none) : put S a = (S, 180) := by unfold put; rw [h]
theorem put_some {S : St} {a : Int} {i : Nat} {b : Blk} (h : find a S = some i) (hb : S[i]? = some b) : put S a = (fuse (S.set i (hole b.size)), 0) := by
  unfold put; rw [h]
  simp only [freeAt, drop_at hb]
  congr 2
  have h1 := take_set_drop (c := hole b.size) hb
  rw [split_at h1.2.2, h1.1, h1.2.1]
theorem sz_set {S : St} {i : Nat} {b c : Blk} (hb : S[i]? = some b) (h : c.size = b.size) : sz (S.set i c) = sz S := by
  have h1 := take_set_drop (c := c) hb
  rw [sz_split h1.2.2, h1.1, h1.2.1, h, ← sz_split hb]

def RPutPost (v0 : Value) (L0 : List RN) (S : St) (a : Int) (w : World) (e : Ending) (w' : World) : Prop :=
  ∃ v L, e = .returned (.tuple #[.agg #[v], .int .i64 (put S a).2]) ∧ RC w' v L (put S a).1 ∧ Below w.heap.size w w' ∧ FromOr v0 L0 w.heap.size v L

set_option maxRecDepth 100000 in
set_option maxHeartbeats 4000000 in
theorem rput_calls {w : World} {v : Value} {L : List RN} {S : St} {n : Nat} (h : RC w v L S) (ok : Ok n S) (a0 : Int) :
    Calls Try.prog 57 #[.agg #[v], .int .i64 a0] w (RPutPost v L S a0 w) := by
  obtain ⟨a, cap, rfl, hn, hc, hcell⟩ := h.ref.form
  have hll : L.length ≤ 16000 := by rw [h.len]; exact ok.slen.1
  have hfd := fun (w' : World) (hB : Below w.heap.size w w') => rfind_calls (h.below hB) ok.slen.2.1 ok.slen.1 a0
  obtain ⟨f, hf⟩ : ∃ f, findV S a0 = f := ⟨_, rfl⟩
  rw [hf] at hfd
  have HF := Lib.hid hf
  have HFD := Lib.hid hfd
  have H := Lib.hid (And.intro h (And.intro ok hcell))
  clear h ok hcell hf hfd
  go_enter Try.func57, Try.ntmps57
  go_wp2_with fail
  obtain ⟨n0, hn0'⟩ : ∃ n0, w.heap.size = n0 := ⟨_, rfl⟩
  obtain ⟨w1, hw1⟩ : ∃ w1, (w.alloc (.cells #[.slice a L.length cap] 59)).alloc (.cells #[.slice none 0 0] 59) = w1 := ⟨_, rfl⟩
  have hB1 : Below n0 w w1 := by rw [← hw1]; exact ((Below.refl _ w).alloc (by omega) _).alloc (by simp; omega) _
  have d0 : w1.cell? ⟨n0, 0, none⟩ = some (.slice a L.length cap) := by rw [← hw1, ← hn0']; exact cell_at ((heap_alloc_lt _ _ _ (by simp)).trans (heap_alloc_new w _)) rfl
  have d1 : w1.heap[n0 + 1]? = some (.cells #[.slice none 0 0] 59 (0, 0)) := by rw [← hw1, ← hn0']; have := heap_alloc_new (w.alloc (.cells #[.slice a L.length cap] 59)) (.cells #[.slice none 0 0] 59); simpa using this
  have hz1 : w1.heap.size = n0 + 2 := by rw [← hw1, ← hn0']; simp
  have hcl := HFD.out w1 (by rw [hn0']; exact hB1)
  rw [hw1, hn0']
  refine hcl.mono ?_
  rintro e wr ⟨rfl, hBr⟩
  have d0 : wr.cell? ⟨n0, 0, none⟩ = some (.slice a L.length cap) := (hBr.cell (p := ⟨n0, 0, none⟩) (by show n0 < _; omega)).trans d0
  have d1 : wr.heap[n0 + 1]? = some (.cells #[.slice none 0 0] 59 (0, 0)) := (hBr.block (n0 + 1) (by omega)).trans d1
  have hB1 : Below n0 w wr := hB1.trans (hBr.mono (by omega))
  have hz1 : n0 + 2 ≤ wr.heap.size := by have := hBr.size; omega
  have H1 := Lib.hid (And.intro hB1 (And.intro d0 (And.intro d1 (And.intro hz1 hn0'))))
  have hrb : n0 + 1 < wr.heap.size := by omega
  have r0 : wr.cell? ⟨n0 + 1, 0, none⟩ = some (.slice none 0 0) := cell_at d1 rfl
  have r1 : wr.frozen? ⟨n0 + 1, 0, none⟩ = false := frozen_at d1
  clear hw1 hB1 d1 hz1 hn0' hcl hBr
  rcases hfo : find a0 S with _ | j
  · have hfv : f = -1 := by rw [← HF.out]; exact findV_none hfo
    subst hfv
    have HN := Lib.hid hfo
    clear hfo
    go_wp2
    (try simp only [Exit.inBlock, Exit.then]); refine bodyPost_ret (res_ct (v := .slice a L.length cap) rfl _ _ rfl (World.cell?_setCell_same' _ _ _ (by rw [r0]; rfl))) rfl ?_
    have e := put_none HN.out
    have hB : Below n0 w (wr.setCell ⟨n0 + 1, 0, none⟩ (.slice a L.length cap)) := H1.out.1.setCell (p := ⟨n0 + 1, 0, none⟩) (by show n0 ≤ n0 + 1; omega) _
    have hB' : Below w.heap.size w (wr.setCell ⟨n0 + 1, 0, none⟩ (.slice a L.length cap)) := by rw [H1.out.2.2.2.2]; exact hB
    exact ⟨_, L, by rw [e]; rfl, by rw [e]; exact H.out.1.below hB', hB', .inl ⟨rfl, rfl⟩⟩
  · obtain ⟨b, hb, hu, ha0⟩ := find_idx hfo
    have hfv : f = (j : Int) := by rw [← HF.out]; exact findV_some hfo
    subst hfv
    have hjs : j < S.length := (List.getElem?_eq_some_iff.1 hb).1
    have HN := Lib.hid (And.intro hfo (And.intro hb (And.intro hu hjs)))
    have hj16 : j ≤ 16000 := by have := H.out.2.1.slen.1; omega
    have q0 : decide ((j : Int) < 0) = false := decide_eq_false (by omega)
    clear hfo hb hu ha0 hjs
    have HCP := Lib.hid (rcopied_calls (H.out.1.below (by rw [H1.out.2.2.2.2]; exact H1.out.1)) (fun b hb => (H.out.2.1.slen).2.2 b hb) H.out.2.1.slen.1)
    go_wp2_with fail
    refine HCP.out.mono ?_
    rintro e3 w3 ⟨tv, TL, rfl, hRT, hST, hBT⟩
    obtain ⟨ta, tcap, rfl, htn, -, htc⟩ := hRT.ref.form
    have hjt : j < TL.length := by rw [hRT.len]; exact HN.out.2.2.2
    obtain ⟨y, hy⟩ : ∃ y, TL[j]? = some y := ⟨_, List.getElem?_eq_getElem hjt⟩
    obtain ⟨tg, toff, rfl, y0, y1⟩ := htc j y hy
    have hyb := hRT.blk j y b hy HN.out.2.1
    go_upto_region 5 with fail
    obtain ⟨tb, htb⟩ : ∃ tb, w3.heap.size = tb := ⟨_, rfl⟩
    obtain ⟨W, hW⟩ : ∃ W, w3.alloc (.cells #[.slice (some ⟨tg, toff, none⟩) TL.length tcap] 59) = W := ⟨_, rfl⟩
    have tW : Turn (fun _ => False) w3 W := by rw [← hW]; exact (Turn.refl (fun _ => False) w3).alloc _
    have hzW : W.heap.size = w3.heap.size + 1 := by rw [← hW]; simp
    have z0 : W.cell? ⟨tb, 0, none⟩ = some (.slice (some ⟨tg, toff, none⟩) TL.length tcap) := by rw [← hW, ← htb]; exact cell_at (heap_alloc_new w3 _) rfl
    rw [hW, htb]
    have tgl : tg < w3.heap.size := cell_lt y0
    have y0 : W.cell? ⟨tg, toff + j * 2, none⟩ = some (.slice y.a y.n y.cap) := (tW.cell (p := ⟨tg, toff + j * 2, none⟩) id tgl).trans y0
    have y1 : W.cell? ⟨tg, toff + j * 2 + 1, none⟩ = some (.bool y.u) := (tW.cell (p := ⟨tg, toff + j * 2 + 1, none⟩) id tgl).trans y1
    have yf : W.frozen? ⟨tg, toff + j * 2, none⟩ = false := (tW.frozen (p := ⟨tg, toff + j * 2, none⟩) id tgl).trans (SliceAt.frozen hRT.ref _)
    have yf1 : W.frozen? ⟨tg, toff + j * 2 + 1, none⟩ = false := (tW.frozen (p := ⟨tg, toff + j * 2 + 1, none⟩) id tgl).trans (SliceAt.frozen hRT.ref _)
    have tgb : tg ≠ tb := by omega
    have hTW : RC W (.slice (some ⟨tg, toff, none⟩) TL.length tcap) TL S := hRT.turn tW (fun _ _ => id) (fun _ _ _ _ => id)
    obtain ⟨z, hz⟩ : ∃ z, y.n = z := ⟨_, rfl⟩
    have hzs : z = b.size := by rw [← hz]; exact hyb.1
    have hbs := (H.out.2.1.slen).2.2 b (List.mem_of_getElem? HN.out.2.1)
    rw [hz] at y0
    obtain ⟨W2, hW2⟩ : ∃ W2, W.drew.alloc (.cells (icells (zeros z)).toArray 3) = W2 := ⟨_, rfl⟩
    have t2 : Turn (fun _ => False) W W2 := by rw [← hW2]; exact ((Turn.refl (fun _ => False) W).drew).alloc _
    have hz2 : W2.heap.size = W.heap.size + 1 := by rw [← hW2]; simp
    have hnew : W2.heap[W.heap.size]? = some (.cells (icells (zeros z)).toArray 3 (0, 0)) := by rw [← hW2]; exact heap_alloc_new W.drew _
    have v0 : W2.cell? ⟨tb, 0, none⟩ = some (.slice (some ⟨tg, toff, none⟩) TL.length tcap) := (t2.cell (p := ⟨tb, 0, none⟩) id (by show tb < _; omega)).trans z0
    have v1 : W2.cell? ⟨tg, toff + j * 2, none⟩ = some (.slice y.a z y.cap) := (t2.cell (p := ⟨tg, toff + j * 2, none⟩) id (by show tg < _; omega)).trans y0
    have v3 : W2.cell? ⟨tg, toff + j * 2 + 1, none⟩ = some (.bool y.u) := (t2.cell (p := ⟨tg, toff + j * 2 + 1, none⟩) id (by show tg < _; omega)).trans y1
    have v2 : W2.frozen? ⟨tg, toff + j * 2, none⟩ = false := (t2.frozen (p := ⟨tg, toff + j * 2, none⟩) id (by show tg < _; omega)).trans yf
    have v4 : W2.frozen? ⟨tg, toff + j * 2 + 1, none⟩ = false := (t2.frozen (p := ⟨tg, toff + j * 2 + 1, none⟩) id (by show tg < _; omega)).trans yf1
    have hT2 : RC W2 (.slice (some ⟨tg, toff, none⟩) TL.length tcap) TL S := hTW.turn t2 (fun _ _ => id) (fun _ _ _ _ => id)
    obtain ⟨ny, hny⟩ : ∃ ny : RN, ny = ⟨some ⟨W.heap.size, 0, none⟩, z, z, false⟩ := ⟨_, rfl⟩
    obtain ⟨W3, hW3⟩ : ∃ W3, (W2.setCell ⟨tg, toff + j * 2, none⟩ (.slice (some ⟨W.heap.size, 0, none⟩) z z)).setCell ⟨tg, toff + j * 2 + 1, none⟩ (.bool false) = W3 := ⟨_, rfl⟩
    have t3 : Turn (fun k => k = tg) W2 W3 := by rw [← hW3]; exact ((Turn.refl (fun k => k = tg) W2).setCell (p := ⟨tg, toff + j * 2, none⟩) (fun _ => rfl) _).setCell (p := ⟨tg, toff + j * 2 + 1, none⟩) (fun _ => rfl) _
    have hs3 : SliceAt W3 108 2 (.slice (some ⟨tg, toff, none⟩) TL.length tcap) (rcells (TL.set j ny)) := by
      have h1 := SliceAt.set hT2.ref (j * 2) ny.val (by rw [rcells_length]; omega)
      have h2 := SliceAt.set h1 (j * 2 + 1) (.bool ny.u) (by rw [List.length_set, rcells_length]; omega)
      rw [rcells_set2 hjt] at h2
      rw [← hW3]
      rw [hny] at h2 ⊢
      exact h2
    have hnws : SliceAt W2 3 1 ny.val (icells (zeros z)) := by
      have := SliceAt.made (sz := 1) hnew (n := z) (by simp [zeros]) (by unfold maxLen; omega)
      rw [hny]
      simpa [RN.val] using this
    have hnown : ∀ k, ny.val.ownBlock = some k → k = W.heap.size := fun k hk => by rw [hny] at hk; simp [RN.val, Value.ownBlock] at hk; omega
    have hnbk : RBk W2 ny (hole b.size) := ⟨by rw [hny]; exact hzs, by rw [hny]; rfl, zeros z, by simp [zeros, hzs, hole], hnws, fun e => by simp [hole] at e⟩
    have hTg : ∀ q ∈ TL, ∀ k, q.val.ownBlock = some k → k ≠ tg := fun q hq k hk e => hST.nv q hq k hk (by rw [e]; rfl)
    have hT3 : RC W3 (.slice (some ⟨tg, toff, none⟩) TL.length tcap) (TL.set j ny) (S.set j (hole b.size)) := hT2.poke (y := ny) hs3 t3 hnbk (fun k hk => by have := hnown k hk; omega) hTg
    have hAp3 : Ap n0 (TL.set j ny) := Ap.set (hST.mono (by have := H1.out.2.2.2.1; omega)).ap fun k hk => ⟨by have := hnown k hk; have := H1.out.2.2.2.1; have := hBT.size; omega, fun q hq e => by have := hTW.blt q hq k e; have := hnown k hk; omega⟩
    have hB3 : Below n0 w W3 := by
      have h1 := hBT.mono (by omega : n0 ≤ wr.heap.size)
      have h2 := hBT.size
      have h3 : n0 ≤ tg := by have := hST.vl tg rfl; omega
      have h4 : Below n0 w3 W3 := ⟨by rw [t3.os, t2.os, tW.os], by rw [t3.tape, t2.tape, tW.tape], by rw [t3.output, t2.output, tW.output], by have := t3.size; omega, fun k hk => by rw [t3.block k (by omega) (by omega), t2.block k (by omega) id, tW.block k (by omega) id]⟩
      exact (H1.out.1.trans h1).trans h4
    have s1 : W3.cell? ⟨tb, 0, none⟩ = some (.slice (some ⟨tg, toff, none⟩) TL.length tcap) := (t3.cell (p := ⟨tb, 0, none⟩) (show ¬ tb = tg by omega) (by show tb < _; omega)).trans v0
    have s2 : W3.heap[n0 + 1]? = some (.cells #[.slice none 0 0] 59 (0, 0)) := by
      have h2 := hBT.size
      rw [t3.block (n0 + 1) (by omega) (by have := hST.vl tg rfl; omega), t2.block (n0 + 1) (by omega) id, tW.block (n0 + 1) (by omega) id, hBT.block (n0 + 1) hrb]
      exact H1.out.2.2.1
    have hjn := rjoined_calls hT3 hAp3 (by have := hB3.size; have := H1.out.2.2.2.2; omega) (by rw [sz_set (c := hole b.size) HN.out.2.1 rfl]; have := H.out.2.1.slen.2.1; omega) (by rw [List.length_set]; have := H.out.2.1.slen.1; omega)
    have HJN := Lib.hid hjn
    have H3 := Lib.hid (And.intro hB3 (And.intro s1 s2))
    have HW3 := Lib.hid hW3
    clear hW3
    have HW2 := Lib.hid hW2
    have HZ := Lib.hid (show z ≤ 100000 by omega)
    clear hjn hB3 s1 s2 hT3 hAp3 hTg hnbk hnown hnws hs3 t3 hT2 hnew hz2 t2 hbs hzs hTW tW hzW hyb hy htn htc hRT hST hBT HCP hW hW2 htb hny r0 r1 d0
    refine wp_region_planG (aF := ?aF5) [10, 13] [[], [10], [10, 13]] 2 [(0, 0, 0), (0, 1, 1), (1, 0, 0), (1, 1, 1), (2, 0, 0), (2, 1, 1), (3, 0, 0), (3, 1, 1), (4, 0, 0), (4, 1, 1), (5, 0, 0), (5, 1, 1), (6, 0, 0), (6, 1, 1), (7, 0, 0), (8, 0, 0), (9, 0, 0), (10, 0, 1), (11, 1, 1), (12, 1, 1), (13, 1, 2)]
      [W.drew, W2, (W2.setCell ⟨tg, toff + j * 2, none⟩ (.slice (some ⟨W.heap.size, 0, none⟩) z z)).setCell ⟨tg, toff + j * 2 + 1, none⟩ (.bool false)]
      [.pointer (some ⟨tb, 0, none⟩), .slice (some ⟨tg, toff, none⟩) TL.length tcap, .int .i64 j, .pointer (some ⟨tb, 0, none⟩), .slice (some ⟨tg, toff, none⟩) TL.length tcap, .int .i64 j, .pointer (some ⟨tg, toff + j * 2, none⟩), .pointer (some ⟨tg, toff + j * 2, none⟩), .slice y.a z y.cap, .int .i64 z, .slice (some ⟨W.heap.size, 0, none⟩) z z, .agg #[.slice (some ⟨W.heap.size, 0, none⟩) z z, .bool false], .pointer (some ⟨tg, toff + j * 2, none⟩), undef]
      (by kernel_rfl) (by kernel_rfl) ?hF5 rfl rfl rfl ?hob5 ?hend5
    case hF5 => simp only [putAll, Act.put]; go_simp; rfl
    case hob5 =>
      repeat' (first
        | exact oblsG_nil
        | (refine oblsG_cons rfl rfl rfl ?_ ?_)
        | exact Runs.value rfl rfl rfl
        | (apply Runs.skip rfl rfl; (focus (go_simp; try exact rfl)); exact rfl)
        | (apply Runs.value rfl; (focus (go_simp; try exact rfl)); exact rfl)
        | (apply Runs.value rfl; (focus (go_simp; rw [make_ints (z : Int) z rfl HZ.out W.drew, HW2.out]; try exact rfl)); exact rfl)
        | (apply Runs.skip rfl rfl; go_simp; trace_state; sorry))
    case hend5 =>
      rw [HW3.out]
      have s1 := H3.out.2.1
      clear v0 v1 v2 v3 v4 z0 y0 yf y1 yf1 hz
      go_wp2_with fail
      refine HJN.out.mono ?_
      rintro e4 w4 ⟨gv, GL, rfl, hRG, hSG, hVG, hBG⟩
      obtain ⟨ga, gn, gc, rfl, -⟩ := SliceAt.form hRG.ref
      have hh : w4.heap[n0 + 1]? = some (.cells #[.slice none 0 0] 59 (0, 0)) := (hBG.block (n0 + 1) (heap_lt H3.out.2.2)).trans H3.out.2.2
      have r0 : w4.cell? ⟨n0 + 1, 0, none⟩ = some (.slice none 0 0) := cell_at hh rfl
      have r1 : w4.frozen? ⟨n0 + 1, 0, none⟩ = false := frozen_at hh
      have HG := Lib.hid (And.intro hRG (And.intro hBG (And.intro (hRG.box hh) hSG)))
      clear hRG hSG hVG hBG hh s1
      go_wp2
      (try simp only [Exit.inBlock, Exit.then]); refine bodyPost_ret (res_ct (v := .slice ga gn gc) rfl _ _ rfl (World.cell?_setCell_same' _ _ _ (by rw [r0]; rfl))) rfl ?_
      have e := put_some HN.out.1 HN.out.2.1
      have t5 : Turn (fun k => k = n0 + 1) w4 (w4.setCell ⟨n0 + 1, 0, none⟩ (.slice ga gn gc)) := (Turn.refl (fun k => k = n0 + 1) w4).setCell (p := ⟨n0 + 1, 0, none⟩) (fun _ => rfl) _
      have hbx := HG.out.2.2.1
      have hB : Below n0 w (w4.setCell ⟨n0 + 1, 0, none⟩ (.slice ga gn gc)) := (H3.out.1.trans (HG.out.2.1.mono (by have := H3.out.1.size; have := H1.out.2.2.2.2; omega))).setCell (p := ⟨n0 + 1, 0, none⟩) (by show n0 ≤ n0 + 1; omega) _
      exact ⟨_, GL, by rw [e]; rfl, by rw [e]; exact HG.out.1.turn t5 (fun k hk e => hbx.1 (by rw [hk, e])) (fun y hy k hk e => hbx.2 y hy (by rw [hk, e])), by rw [H1.out.2.2.2.2]; exact hB, .inr (by rw [H1.out.2.2.2.2]; exact HG.out.2.2.2)⟩
end Go.Sto
