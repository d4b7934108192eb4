/-
  The reference's copied, walked.
-/
import Derived.Laws.ResultCell
import Derived.Laws.Rows
import Derived.Test.YtahfoejffibahaaQStoRC
import Derived.Test.YtahfoejffibahaaQStoRestPure
set_option linter.unusedVariables false

namespace Go.Sto
open Go.Own Go.RowKit Go.Proofs

theorem res_c {fn : Func} {p : Tmp} (h : fn.results = #[.cell p 59]) (tmps : Array Value) (w : World) {g : Nat} {v : Value} (hp : tmps.getD p undef = .pointer (some ⟨g, 0, none⟩)) (hc : w.cell? ⟨g, 0, none⟩ = some v) :
    (results fn tmps).run Try.prog w = .ok (.agg #[v]) w := by
  have hp' : tmps[p]?.getD undef = .pointer (some ⟨g, 0, none⟩) := by simpa using hp
  simp [results, h, hp', asAddr]
  go_simp

/-- What a round of copied leaves. -/
def CpI (w1 : World) (n0 : Nat) (S : St) (j : Nat) (wx : World) : Prop :=
  ∃ v L', wx.cell? ⟨n0 + 2, 0, none⟩ = some v ∧ wx.frozen? ⟨n0 + 2, 0, none⟩ = false ∧ RC wx v L' (S.take j) ∧ Sep (n0 + 3) v L' ∧ Below (n0 + 2) w1 wx ∧ n0 + 3 ≤ wx.heap.size

def CopyPost (S : St) (w : World) (e : Ending) (w' : World) : Prop :=
  ∃ v L, e = .returned (.agg #[v]) ∧ RC w' v L S ∧ Sep w.heap.size v L ∧ Below w.heap.size w w'

set_option maxRecDepth 100000 in
set_option maxHeartbeats 4000000 in
theorem rcopied_calls {w : World} {v : Value} {L : List RN} {S : St} (h : RC w v L S) (hs : ∀ b ∈ S, 0 < b.size ∧ b.size ≤ 32000) (hl : S.length ≤ 16000) :
    Calls Try.prog 68 #[.agg #[v]] w (CopyPost S w) := by
  obtain ⟨a, cap, rfl, hn, hc, hcell⟩ := h.ref.form
  have H := Lib.hid (And.intro h (And.intro hcell hs))
  have hll : L.length ≤ 16000 := by rw [h.len]; exact hl
  clear hl
  clear h hcell hs
  go_enter Try.func68, Try.ntmps68
  go_wp2
  obtain ⟨n0, hn0⟩ : ∃ n0, w.heap.size = n0 := ⟨_, rfl⟩
  obtain ⟨w1, hw1⟩ : ∃ w1, ((w.alloc (.cells #[.slice a L.length cap] 59)).alloc (.cells #[.slice none 0 0] 59)).alloc (.cells #[.slice none 0 0] 59) = w1 := ⟨_, rfl⟩
  have hB1 : Below w.heap.size w w1 := by rw [← hw1]; exact (((Below.refl _ w).alloc (Nat.le_refl _) _).alloc (by simp) _).alloc (by simp; omega) _
  have d0 : w1.cell? ⟨n0, 0, none⟩ = some (.slice a L.length cap) := by rw [← hw1, ← hn0]; exact cell_at ((heap_alloc_lt _ _ _ (by simp; omega)).trans ((heap_alloc_lt _ _ _ (by simp)).trans (heap_alloc_new w _))) rfl
  have d1 : w1.cell? ⟨n0 + 1, 0, none⟩ = some (.slice none 0 0) ∧ w1.frozen? ⟨n0 + 1, 0, none⟩ = false := by
    have : w1.heap[n0 + 1]? = some (.cells #[.slice none 0 0] 59 (0, 0)) := by rw [← hw1, ← hn0]; exact (heap_alloc_lt _ _ _ (by simp)).trans (by have := heap_alloc_new (w.alloc (.cells #[.slice a L.length cap] 59)) (.cells #[.slice none 0 0] 59); simpa using this)
    exact ⟨cell_at this rfl, frozen_at this⟩
  have d2 : w1.cell? ⟨n0 + 2, 0, none⟩ = some (.slice none 0 0) ∧ w1.frozen? ⟨n0 + 2, 0, none⟩ = false := by
    have : w1.heap[n0 + 2]? = some (.cells #[.slice none 0 0] 59 (0, 0)) := by rw [← hw1, ← hn0]; have := heap_alloc_new ((w.alloc (.cells #[.slice a L.length cap] 59)).alloc (.cells #[.slice none 0 0] 59)) (.cells #[.slice none 0 0] 59); simpa using this
    exact ⟨cell_at this rfl, frozen_at this⟩
  have hz1 : w1.heap.size = n0 + 3 := by rw [← hw1, ← hn0]; simp
  rw [hw1, hn0]
  have H1 := Lib.hid (And.intro hB1 (And.intro d0 (And.intro d1 (And.intro d2 (And.intro hz1 hn0)))))
  have hcp : CpI w1 n0 S 0 w1 := ⟨_, [], d2.1, d2.2, by simpa using RC.nil w1, Sep.nil _, Below.refl _ _, by omega⟩
  clear hw1 hn0 hB1 d0 d1 d2 hz1
  go_loopg [4] (L.length) (fun k x wx => k ≤ L.length ∧ x = .int .i64 ((L.length - k : Nat) : Int) ∧ CpI w1 n0 S (L.length - k) wx)
  case atStart => exact ⟨Nat.le_refl _, by simp, by simpa using hcp⟩
  case round =>
    clear hcp
    obtain ⟨hk, rfl, hI⟩ := hrel
    obtain ⟨j, hj⟩ : ∃ j, L.length - gk = j := ⟨_, rfl⟩
    rw [hj] at hI ⊢
    have HJ := Lib.hid hj
    clear hj
    obtain ⟨v, L', o1, o2, hRC, hSep, hBel, hsz⟩ := hI
    have c0 : wr.cell? ⟨n0, 0, none⟩ = some (.slice a L.length cap) := (hBel.cell (p := ⟨n0, 0, none⟩) (by show n0 < n0 + 2; omega)).trans H1.out.2.1
    by_cases hlt : j < L.length
    · obtain ⟨x, hx⟩ : ∃ x, L[j]? = some x := ⟨_, List.getElem?_eq_getElem hlt⟩
      obtain ⟨b, off, rfl, e0, e1⟩ := H.out.2.1 j x hx
      obtain ⟨bl, hbl, hxn, hxu, ws, hws, hwc, hwd⟩ := H.out.1.get hx
      have hbs := H.out.2.2 bl (List.mem_of_getElem? hbl)
      have hbn : b < n0 := by have h : b < w.heap.size := cell_lt e0; rw [H1.out.2.2.2.2.2] at h; exact h
      have hB02 : Below n0 w wr := by have := H1.out.1; rw [H1.out.2.2.2.2.2] at this; exact this.trans (hBel.mono (by omega))
      have e0 : wr.cell? ⟨b, off + j * 2, none⟩ = some (.slice x.a x.n x.cap) := (hB02.cell (p := ⟨b, off + j * 2, none⟩) hbn).trans e0
      have e1 : wr.cell? ⟨b, off + j * 2 + 1, none⟩ = some (.bool x.u) := (hB02.cell (p := ⟨b, off + j * 2 + 1, none⟩) hbn).trans e1
      have hwc0 : SliceAt wr 3 1 (.slice x.a x.n x.cap) (icells ws) := SliceAt.keep hwc fun k hk => hB02.block k (by have := SliceAt.lt hwc k hk; rw [H1.out.2.2.2.2.2] at this; exact this)
      obtain ⟨va, vn, vc, rfl, -⟩ := SliceAt.form hRC.ref
      go_upto_region 5 with fail
      obtain ⟨a8, c8, W1, hr8, s8, o8, b8⟩ := run_copy wr.drew x.a x.n x.cap ws (SliceAt.drew hwc0) (by omega) (by omega) 24
      obtain ⟨W0, hW0⟩ : ∃ W0, wr.drew = W0 := ⟨_, rfl⟩
      have B0 : Below wr.heap.size wr W0 := by rw [← hW0]; exact (Below.refl _ wr).drew
      have hz0 : W0.heap.size = wr.heap.size := by rw [← hW0]; rfl
      rw [hW0] at hr8 b8 o8
      have hRC0 : RC W0 (.slice va vn vc) L' (S.take j) := by rw [← hW0]; exact hRC.drew
      have f0 : W0.cell? ⟨n0 + 2, 0, none⟩ = some (.slice va vn vc) := by rw [← hW0]; exact o1
      have f1 : W0.frozen? ⟨n0 + 2, 0, none⟩ = false := by rw [← hW0]; exact o2
      have f2 : W0.cell? ⟨n0, 0, none⟩ = some (.slice (some ⟨b, off, none⟩) L.length cap) := by rw [← hW0]; exact c0
      have f3 : W0.cell? ⟨b, off + j * 2, none⟩ = some (.slice x.a x.n x.cap) := by rw [← hW0]; exact e0
      have f4 : W0.cell? ⟨b, off + j * 2 + 1, none⟩ = some (.bool x.u) := by rw [← hW0]; exact e1
      have hn2 : n0 + 2 < W0.heap.size := by omega
      have hRC1 := hRC0.below b8
      have g0 := (b8.cell (p := ⟨n0 + 2, 0, none⟩) hn2).trans f0
      have g1 := (b8.frozen (p := ⟨n0 + 2, 0, none⟩) hn2).trans f1
      have g2 := (b8.cell (p := ⟨n0, 0, none⟩) (by show n0 < _; omega)).trans f2
      have g3 := (b8.cell (p := ⟨b, off + j * 2, none⟩) (by show b < _; omega)).trans f3
      have g4 := (b8.cell (p := ⟨b, off + j * 2 + 1, none⟩) (by show b < _; omega)).trans f4
      have hz1 := b8.size
      obtain ⟨nb, hnb⟩ : ∃ nb, W1.heap.size = nb := ⟨_, rfl⟩
      obtain ⟨W2, hW2⟩ : ∃ W2, W1.alloc (.cells #[.slice a8 x.n c8, .bool x.u] 108) = W2 := ⟨_, rfl⟩
      have t2 : Turn (fun _ => False) W1 W2 := by rw [← hW2]; exact (Turn.refl _ W1).alloc _
      have hz2 : W2.heap.size = nb + 1 := by rw [← hW2, ← hnb]; simp
      have hN2 : W2.heap[nb]? = some (.cells (rcell ⟨a8, x.n, c8, x.u⟩).toArray 108 (0, 0)) := by rw [← hW2, ← hnb]; exact heap_alloc_new W1 _
      have hRC2 : RC W2 (.slice va vn vc) L' (S.take j) := by rw [← hW2]; exact hRC1.alloc _
      have k0 := (t2.cell (p := ⟨n0 + 2, 0, none⟩) id (by show n0 + 2 < _; omega)).trans g0
      have k1 := (t2.frozen (p := ⟨n0 + 2, 0, none⟩) id (by show n0 + 2 < _; omega)).trans g1
      have k2 := (t2.cell (p := ⟨n0, 0, none⟩) id (by show n0 < _; omega)).trans g2
      have s82 : SliceAt W2 3 1 (.slice a8 x.n c8) (icells ws) := s8.turn t2 fun _ _ => id
      have hLl : L'.length = j := by have := hRC.len; rw [List.length_take] at this; have := H.out.1.len; omega
      obtain ⟨v3, W3, hr3, s3, t3, o3, -⟩ := run_append (P := Try.prog) W2 57 57 57 108 2 32 (.agg #[.slice none 0 0, .bool false]) Try.underlying57 (.inr ⟨_, Try.underlying57⟩) elemR (.slice va vn vc) _ hRC2.ref (.slice (some ⟨nb, 0, none⟩) 1 1) 1 (rcell ⟨a8, x.n, c8, x.u⟩)
        (Src.slice _ _ _ _ (by simp [rcell]) fun k u hu => by rw [Addr.add_lit]; exact cell_at hN2 (by simpa using hu)) (by intro u hu; simp [rcell] at hu; rcases hu with rfl | rfl <;> rfl) (by simp [rcell, rcells_length]; omega) (by simp [rcell, rcells_length]; omega)
      obtain ⟨ra, rn, rc, rfl, -⟩ := SliceAt.form s3
      have hv : ∀ k, (Value.slice va vn vc).ownBlock = some k → n0 + 3 ≤ k ∧ k < wr.heap.size := fun k hk => ⟨hSep.vl k hk, SliceAt.lt hRC.ref k hk⟩
      have l0 := (t3.cell (p := ⟨n0 + 2, 0, none⟩) (fun e => by have h : n0 + 3 ≤ n0 + 2 := (hv _ e).1; omega) (by show n0 + 2 < _; omega)).trans k0
      have l1 := (t3.frozen (p := ⟨n0 + 2, 0, none⟩) (fun e => by have h : n0 + 3 ≤ n0 + 2 := (hv _ e).1; omega) (by show n0 + 2 < _; omega)).trans k1
      have l2 := (t3.cell (p := ⟨n0, 0, none⟩) (fun e => by have h : n0 + 3 ≤ n0 := (hv _ e).1; omega) (by show n0 < _; omega)).trans k2
      have s83 : SliceAt W3 3 1 (.slice a8 x.n c8) (icells ws) := s82.turn t3 fun k hk e => by
        rw [o8] at hk; cases hk; have := (hv _ e).2; omega
      have bk : RBk W3 ⟨a8, x.n, c8, x.u⟩ bl := ⟨hxn, hxu, ws, hws, s83, hwd⟩
      have hRC3 : RC W3 (Value.slice ra rn rc) (L' ++ [⟨a8, x.n, c8, x.u⟩]) (S.take j ++ [bl]) := hRC2.app t3 (by simpa [rcells] using s3) hSep.nv rfl (fun i y b h1 h2 => by
        cases i with
        | zero => simp at h1 h2; subst h1; subst h2; exact bk
        | succ i => simp at h1)
      have hSep3 : Sep (n0 + 3) (Value.slice ra rn rc) (L' ++ [⟨a8, x.n, c8, x.u⟩]) := hSep.app (B := W2.heap.size) o3 (by omega) (fun y hy k hk => by have := hRC2.blt y hy k hk; omega) (fun y hy k hk => by
          simp only [List.mem_singleton] at hy; subst hy
          have : (Value.slice a8 x.n c8).ownBlock = some k := hk
          rw [o8] at this; cases this
          exact ⟨by omega, by omega, fun e => by have := (hv _ e).2; omega⟩) (List.pairwise_singleton _ _) (fun y hy z hz k hk hk2 => by
          simp only [List.mem_singleton] at hz; subst hz
          have : (Value.slice a8 x.n c8).ownBlock = some k := hk2
          rw [o8] at this; cases this
          have := hRC0.blt y hy _ hk; omega)
      have hst : S.take (j + 1) = S.take j ++ [bl] := by rw [List.take_add_one, hbl]; rfl
      have t4 : Turn (fun k => k = n0 + 2) W3 (W3.setCell ⟨n0 + 2, 0, none⟩ (.slice ra rn rc)) := (Turn.refl (fun k => k = n0 + 2) W3).setCell (p := ⟨n0 + 2, 0, none⟩) (fun _ => rfl) _
      have hz3 := t3.size
      have own3 : ∀ k, (Value.slice ra rn rc).ownBlock = some k → n0 + 3 ≤ k := hSep3.vl
      have FIN := Lib.hid (show CpI w1 n0 S (j + 1) (W3.setCell ⟨n0 + 2, 0, none⟩ (.slice ra rn rc)) from ⟨.slice ra rn rc, _, World.cell?_setCell_same' _ _ _ (by rw [l0]; rfl), by rw [World.frozen?_setCell]; exact l1, by rw [hst]; exact hRC3.turn t4 (fun k hk e => by have := own3 k hk; omega) (fun y hy k hk e => by have := hSep3.lo y hy k hk; omega), hSep3,
        (hBel.trans ((B0.trans (b8.mono (by omega))).mono (by omega))).trans ⟨by rw [t4.os, t3.os, t2.os], by rw [t4.tape, t3.tape, t2.tape], by rw [t4.output, t3.output, t2.output], by have := t4.size; omega, fun k hk => by
          rw [t4.block k (by omega) (by omega), t3.block k (by omega) (fun e => by have := (hv k e).1; omega), t2.block k (by omega) id]⟩, by have := t4.size; omega⟩)
      have HR := Lib.hid (And.intro hr8 hr3)
      clear hRC0 hRC1 hRC2 hRC3 hSep3 s8 s82 s83 s3 o3 t2 t3 t4 bk hst own3 hv hr8 hr3 hN2 B0 hBel hSep hRC hwc0 hwc hwd hws hbs hbl hxn hxu b8 o8 hB02 hz3 hz2 hz1 hz0 hLl hn2 hbn hsz c0 e0 e1 o1 o2 hx hn
      refine wp_region_planG (aF := ?aFa) [8, 16, 17, 19] [[], [8], [8, 16], [8, 16, 17], [8, 16, 17, 19]] 4 [(0, 0, 0), (0, 1, 1), (0, 2, 2), (1, 0, 0), (1, 1, 1), (1, 2, 2), (2, 0, 0), (2, 1, 1), (2, 2, 2), (2, 3, 3), (3, 0, 0), (3, 1, 1), (3, 2, 2), (3, 3, 3), (4, 0, 0), (4, 1, 1), (4, 2, 2), (4, 3, 3), (5, 0, 0), (6, 0, 0), (7, 0, 0), (8, 0, 1), (9, 0, 0), (9, 1, 1), (9, 2, 2), (9, 3, 3), (10, 0, 0), (10, 1, 1), (10, 2, 2), (10, 3, 3), (11, 0, 0), (11, 1, 1), (11, 2, 2), (11, 3, 3), (12, 0, 0), (12, 1, 1), (12, 2, 2), (12, 3, 3), (13, 0, 0), (13, 1, 1), (14, 0, 0), (14, 1, 1), (15, 1, 1), (16, 1, 2), (17, 2, 3), (18, 3, 3), (19, 3, 4)]
        [W0, W1, W2, W3, W3.setCell ⟨n0 + 2, 0, none⟩ (.slice ra rn rc)]
        [.pointer (some ⟨n0 + 2, 0, none⟩), .slice va vn vc, .pointer (some ⟨n0, 0, none⟩), .slice (some ⟨b, off, none⟩) L.length cap, .int .i64 j, .pointer (some ⟨b, off + j * 2, none⟩), .pointer (some ⟨b, off + j * 2, none⟩), .slice x.a x.n x.cap, .slice a8 x.n c8,
          .pointer (some ⟨n0, 0, none⟩), .slice (some ⟨b, off, none⟩) L.length cap, .int .i64 j, .pointer (some ⟨b, off + j * 2, none⟩), .pointer (some ⟨b, off + j * 2 + 1, none⟩), .bool x.u, .agg #[.slice a8 x.n c8, .bool x.u], .slice (some ⟨nb, 0, none⟩) 1 1, .slice ra rn rc, .pointer (some ⟨n0 + 2, 0, none⟩), undef]
        (by kernel_rfl) (by kernel_rfl) ?hFa (by rw [hW0]; rfl) rfl rfl ?hoba ?henda
      case hFa => simp only [putAll, Act.put]; go_simp; rfl
      case hoba =>
        clear hW0
        repeat' (first
          | exact oblsG_nil
          | (refine oblsG_cons rfl rfl rfl ?_ ?_)
          | exact Runs.value rfl rfl rfl
          | exact Runs.append rfl _ _ _ _ rfl _ _ _ rfl rfl HR.out.1 rfl
          | exact Runs.append rfl _ _ _ _ rfl _ _ _ rfl rfl HR.out.2 rfl
          | (apply Runs.skip rfl rfl; (focus (go_simp; try exact rfl)); exact rfl)
          | (apply Runs.value rfl; (focus (go_simp; try exact rfl)); exact rfl))
      case henda =>
        clear hW0
        go_wp2_with fail
        go_roundg (gk - 1)
        case measure => have := HJ.out; omega
        case rel =>
          have hjj := HJ.out
          have e1 : L.length - (gk - 1) = j + 1 := by omega
          rw [e1]
          exact ⟨by omega, by go_num, FIN.out⟩
    · obtain rfl : j = L.length := by have := HJ.out; omega
      obtain ⟨va, vn, vc, rfl, -⟩ := SliceAt.form hRC.ref
      have HF := Lib.hid (And.intro o1 (And.intro o2 (And.intro hRC (And.intro hSep hBel))))
      have r0 := (hBel.cell (p := ⟨n0 + 1, 0, none⟩) (by show n0 + 1 < n0 + 2; omega)).trans H1.out.2.2.1.1
      have r1 := (hBel.frozen (p := ⟨n0 + 1, 0, none⟩) (by show n0 + 1 < n0 + 2; omega)).trans H1.out.2.2.1.2
      clear hRC hSep hBel o2
      go_wp2
      (try simp only [Exit.inBlock, Exit.then]); refine bodyPost_ret (res_c (v := .slice va vn vc) rfl _ _ rfl (World.cell?_setCell_same' _ _ _ (by rw [r0]; rfl))) rfl ?_
      obtain ⟨p1, p2, p3, p4, p5⟩ := HF.out
      have t : Turn (fun k => k = n0 + 1) wr (wr.setCell ⟨n0 + 1, 0, none⟩ (.slice va vn vc)) := (Turn.refl (fun k => k = n0 + 1) wr).setCell (p := ⟨n0 + 1, 0, none⟩) (fun _ => rfl) _
      have hn0 := H1.out.2.2.2.2.2
      have hp : S.take L.length = S := by rw [H.out.1.len, List.take_length]
      rw [hp] at p3
      refine ⟨.slice va vn vc, L', rfl, p3.turn t (fun k hk e => by have := p4.vl k hk; omega) (fun y hy k hk e => by have := p4.lo y hy k hk; omega), p4.mono (by omega), ?_⟩
      have h1 := H1.out.1
      have h2 := H1.out.2.2.2.2.1
      rw [hn0] at h1 ⊢
      exact (h1.trans (p5.mono (by omega))).setCell (p := ⟨n0 + 1, 0, none⟩) (by show n0 ≤ n0 + 1; omega) _
end Go.Sto
