/-
  The reference's Get, walked.
-/
import Derived.Test.YtahfoejffibahaaQStoRPoke
import Derived.Test.YtahfoejffibahaaQOwnRegionHOn
set_option linter.unusedVariables false

namespace Go.Sto
open Go.Own Go.RowKit Go.Proofs

theorem rneed_calls (k : Int) (h0 : 0 ≤ k) (h1 : k ≤ 32000) {m : Nat} (hm : need k = m) (w : World) :
    Calls Try.prog 67 #[.int .i64 k] w fun e w' => e = .returned (.int .i64 m) ∧ w' = w := by
  subst hm
  obtain ⟨m, rfl⟩ := Int.eq_ofNat_of_zero_le h0
  go_enter Try.func67, Try.ntmps67
  have e : ((need m : Nat) : Int) = max 2 (((m : Int) + 2) / 2 * 2) := by simp only [need, Int.toNat_natCast]; omega
  go_wp2
  all_goals (go_ret; refine ⟨?_, rfl⟩; show Ending.returned (Value.int .i64 _) = Ending.returned (Value.int .i64 _); congr 2; omega)

theorem res_ctt {fn : Func} {p u q : Tmp} (h : fn.results = #[.cell p 59, .tmp u, .tmp q]) (tmps : Array Value) (w : World) {g : Nat} {v : Value} (hp : tmps.getD p undef = .pointer (some ⟨g, 0, none⟩)) (hc : w.cell? ⟨g, 0, none⟩ = some v) :
    (results fn tmps).run Try.prog w = .ok (.tuple #[.agg #[v], tmps.getD u undef, tmps.getD q undef]) w := by
  have hp' : tmps[p]?.getD undef = .pointer (some ⟨g, 0, none⟩) := by simpa using hp
  simp [results, h, hp', asAddr]
  go_simp

theorem RBk.ne_cells {w : World} {x : RN} {b : Blk} (h : RBk w x b) {k : Nat} (hk : x.val.ownBlock = some k) {cur : Array Value} {e : TypeId} {fr : Nat × Nat} (hb : w.heap[k]? = some (.cells cur e fr)) : 3 = e := by
  obtain ⟨-, -, ws, -, hs, -⟩ := h
  exact hs.elem hk hb
/-- A box is no block of words, and none of the list's. -/
theorem RC.box {w : World} {v : Value} {L : List RN} {S : St} (h : RC w v L S) {k : Nat} {cur : Array Value} {fr : Nat × Nat} (hb : w.heap[k]? = some (.cells cur 59 fr)) : v.ownBlock ≠ some k ∧ ∀ x ∈ L, x.val.ownBlock ≠ some k :=
  ⟨fun e => absurd (SliceAt.elem h.ref e hb) (by decide), fun x hx e => by
    obtain ⟨i, hi⟩ := List.mem_iff_getElem?.1 hx
    obtain ⟨c, -, hc⟩ := h.get hi
    exact absurd (hc.ne_cells e hb) (by decide)⟩

/-- A store is the one that came in, or lies in memory of its own. -/
def FromOr (v : Value) (L : List RN) (N : Nat) (v' : Value) (L' : List RN) : Prop := (v' = v ∧ L' = L) ∨ Sep N v' L'

def RGetPost (v0 : Value) (L0 : List RN) (S : St) (k : Int) (w : World) (e : Ending) (w' : World) : Prop :=
  ∃ v L, e = .returned (.tuple #[.agg #[v], .int .i64 (get S k).2.1, .int .i64 (get S k).2.2]) ∧ RC w' v L (get S k).1 ∧ Below w.heap.size w w' ∧ ((get S k).2.2 = 0 → Sep w.heap.size v L) ∧ FromOr v0 L0 w.heap.size v L

theorem get_bad {S : St} {k : Int} (h : k < 0 ∨ 32000 < k) : get S k = (S, 0, 1) := by unfold get; rw [if_pos h]
theorem get_none {S : St} {k : Int} (h0 : 0 ≤ k) (h1 : k ≤ 32000) (h : hit (fits (need k)) 0 S = none) : get S k = (S, 0, 2) := by rw [get_model h0 h1, h]
theorem get_hit {S : St} {k : Int} {i : Nat} (h0 : 0 ≤ k) (h1 : k ≤ 32000) (h : hit (fits (need k)) 0 S = some i) {b : Blk} (hb : S[i]? = some b) :
    get S k = (S.take i ++ ⟨need k, true, zeros (need k - 1)⟩ :: (rest b.size (need k) ++ S.drop (i + 1)), (sz (S.take i) : Int) + 1, 0) := by
  rw [get_model h0 h1, h]
  simp only [cutAt, drop_at hb]
theorem get_norm {n : Nat} {S : St} {k : Int} {i : Nat} (ok : Ok n S) {b : Blk} (hb : S[i]? = some b) (hu : b.used = false) (hm : need k ≤ b.size) :
    fuse (S.take i ++ ⟨need k, true, zeros (need k - 1)⟩ :: (rest b.size (need k) ++ S.drop (i + 1))) = S.take i ++ ⟨need k, true, zeros (need k - 1)⟩ :: (rest b.size (need k) ++ S.drop (i + 1)) :=
  fuse_norm (take_ok (by rw [← split_at hb]; exact ok) hu hm (need_good k).1 (need_good k).2 _ (good_zeros (need_good k).1 (need_good k).2)).norm

theorem cell_second (w : World) (A : Obj) (v : Value) (t : TypeId) : ((w.alloc A).alloc (.cells #[v] t)).cell? ⟨w.heap.size + 1, 0, none⟩ = some v := by
  have := heap_alloc_new (w.alloc A) (.cells #[v] t)
  rw [show (w.alloc A).heap.size = w.heap.size + 1 by simp] at this
  exact cell_at this rfl
def FitPre (S : St) (m j : Nat) : Prop := ∀ k c, k < j → S[k]? = some c → fits m (0 + sz (S.take k)) c = false
theorem FitPre.next {S : St} {m j : Nat} (h : FitPre S m j) {b : Blk} (hb : S[j]? = some b) (hn : b.used = true ∨ b.size < m) : FitPre S m (j + 1) := fun k c hk hc => by
  rcases Nat.lt_or_ge k j with q | q
  · exact h k c q hc
  · obtain rfl : k = j := by omega
    rw [hb] at hc; cases hc
    unfold fits
    rcases hn with hn | hn
    · rw [hn]; rfl
    · rw [decide_eq_false (by omega)]; simp

theorem zeros_cut (z m : Nat) (h : m ≤ z) : ((zeros z).take m).drop 1 = zeros (m - 1) := by
  unfold zeros; rw [List.take_replicate, List.drop_replicate, Nat.min_eq_left h]

/-- What holds at each stage of the region of Get's results. -/
structure G10 (w0 W : World) (n0 N rb : Nat) (T : St) (A : Int) (s : Nat) (ξ : Nat → Value) (w : World) : Prop where
  b0 : s ≤ 2 → Below W.heap.size W w
  b1 : Below n0 w0 w
  sp : 1 ≤ s → ∃ v L, ξ 3 = .agg #[v] ∧ RC w v L T ∧ Sep N v L
  a : 2 ≤ s → ξ 6 = .int .i64 A
  c : s = 3 → ∃ v, ξ 3 = .agg #[v] ∧ w.cell? ⟨rb, 0, none⟩ = some v

set_option maxRecDepth 100000 in
set_option maxHeartbeats 4000000 in
theorem rget_calls {w : World} {v : Value} {L : List RN} {S : St} {n : Nat} (h : RC w v L S) (ok : Ok n S) (k : Int) :
    Calls Try.prog 41 #[.agg #[v], .int .i64 k] w (RGetPost v L S k w) := by
  obtain ⟨a, cap, rfl, hn, hc, hcell⟩ := h.ref.form
  have hll : L.length ≤ 16000 := by rw [h.len]; exact ok.slen.1
  by_cases hk : k < 0 ∨ 32000 < k
  · have H := Lib.hid (And.intro h hk)
    have hpost : RGetPost (.slice a L.length cap) L S k w (.returned (.tuple #[.agg #[.slice a L.length cap], .int .i64 0, .int .i64 1])) ((w.alloc (.cells #[.slice a L.length cap] 59)).alloc (.cells #[.slice a L.length cap] 59)) := by
      have e := get_bad (S := S) hk
      have hB : Below w.heap.size w ((w.alloc (.cells #[.slice a L.length cap] 59)).alloc (.cells #[.slice a L.length cap] 59)) := ((Below.refl _ w).alloc (Nat.le_refl _) _).alloc (by simp) _
      exact ⟨_, L, by rw [e], by rw [e]; exact h.below hB, hB, fun q => (by rw [e] at q; cases q), .inl ⟨rfl, rfl⟩⟩
    have HP := Lib.hid hpost
    clear h hcell ok hpost
    have f : (decide (k < 0) = true) ∨ (decide (k < 0) = false ∧ decide (32000 < k) = true) := by
      by_cases h0 : k < 0
      · exact .inl (by simpa using h0)
      · exact .inr ⟨by simpa using h0, by simp; omega⟩
    clear hk
    rcases f with q1 | ⟨q1, q2⟩
    all_goals
      go_enter Try.func41, Try.ntmps41
      go_wp2
      (try simp only [Exit.inBlock, Exit.then]); refine bodyPost_ret (res_ctt (v := .slice a L.length cap) rfl _ _ rfl (cell_second w _ _ _)) rfl ?_
      exact HP.out
  · have h0 : 0 ≤ k := by omega
    have h1 : k ≤ 32000 := by omega
    have q1 : decide (k < 0) = false := by simp; omega
    have q2 : decide (32000 < k) = false := by simp; omega
    obtain ⟨m, hm⟩ : ∃ m, need k = m := ⟨_, rfl⟩
    have HN := Lib.hid (rneed_calls k h0 h1 hm)
    have hm0 := need_good k
    rw [hm] at hm0
    have H := Lib.hid (And.intro h (And.intro ok (And.intro hcell (And.intro hm (And.intro hm0 (And.intro h0 h1))))))
    clear h ok hcell hk h0 h1 hm hm0
    go_enter Try.func41, Try.ntmps41
    go_wp2_with fail
    obtain ⟨n0, hn0'⟩ : ∃ n0, w.heap.size = n0 := ⟨_, rfl⟩
    obtain ⟨w1, hw1⟩ : ∃ w1, (w.alloc (.cells #[.slice a L.length cap] 59)).alloc (.cells #[.slice none 0 0] 59) = w1 := ⟨_, rfl⟩
    have hB1 : Below n0 w w1 := by rw [← hw1]; exact ((Below.refl _ w).alloc (by omega) _).alloc (by simp; omega) _
    have d0 : w1.cell? ⟨n0, 0, none⟩ = some (.slice a L.length cap) := by rw [← hw1, ← hn0']; exact cell_at ((heap_alloc_lt _ _ _ (by simp)).trans (heap_alloc_new w _)) rfl
    have d1 : w1.heap[n0 + 1]? = some (.cells #[.slice none 0 0] 59 (0, 0)) := by rw [← hw1, ← hn0']; have := heap_alloc_new (w.alloc (.cells #[.slice a L.length cap] 59)) (.cells #[.slice none 0 0] 59); simpa using this
    have hz1 : w1.heap.size = n0 + 2 := by rw [← hw1, ← hn0']; simp
    rw [hw1, hn0']
    have H1 := Lib.hid (And.intro hB1 (And.intro d0 (And.intro d1 (And.intro hz1 hn0'))))
    clear hw1 hB1 d0 d1 hz1 hn0'
    refine (HN.out w1).mono ?_
    rintro e w2 ⟨rfl, rfl⟩
    go_wp2_with fail
    have hrb : n0 + 1 < w2.heap.size := by have := H1.out.2.2.2.1; omega
    go_loopg [8] (L.length) (fun k x wx => k ≤ L.length ∧ x = .int .i64 ((L.length - k : Nat) : Int) ∧ wx = w2 ∧ FitPre S m (L.length - k))
    case atStart => exact ⟨Nat.le_refl _, by simp, rfl, fun k c hk => by omega⟩
    case round =>
      obtain ⟨hk, rfl, rfl, hF⟩ := hrel
      obtain ⟨j, hj⟩ : ∃ j, L.length - gk = j := ⟨_, rfl⟩
      rw [hj] at hF ⊢
      have HJ := Lib.hid (And.intro hj hF)
      clear hj hF
      have c0 := H1.out.2.1
      by_cases hlt : j < L.length
      · obtain ⟨x, hx⟩ : ∃ x, L[j]? = some x := ⟨_, List.getElem?_eq_getElem hlt⟩
        obtain ⟨bb, off, rfl, e0, e1⟩ := H.out.2.2.1 j x hx
        have hbn : bb < n0 := by have h : bb < w.heap.size := cell_lt e0; rw [H1.out.2.2.2.2] at h; exact h
        have e0 : wr.cell? ⟨bb, off + j * 2, none⟩ = some (.slice x.a x.n x.cap) := (H1.out.1.cell (p := ⟨bb, off + j * 2, none⟩) hbn).trans e0
        have e1 : wr.cell? ⟨bb, off + j * 2 + 1, none⟩ = some (.bool x.u) := (H1.out.1.cell (p := ⟨bb, off + j * 2 + 1, none⟩) hbn).trans e1
        obtain ⟨b, hb, hbk⟩ := H.out.1.get hx
        have hxn := hbk.1
        have hxu := hbk.2.1
        have HB := Lib.hid (And.intro hx (And.intro hb (And.intro hbk (And.intro hxn hxu))))
        clear hx hb hbk
        have key : (x.u = true ∨ (x.u = false ∧ x.n < m)) ∨ (x.u = false ∧ ¬ x.n < m) := by
          cases x.u <;> by_cases q : x.n < m <;> simp [q]
        clear hxn hxu
        rcases key with key | ⟨hu, hm⟩
        · have hnext : FitPre S m (j + 1) := HJ.out.2.next HB.out.2.1 (by
            rw [← HB.out.2.2.2.1, ← HB.out.2.2.2.2]
            rcases key with q | ⟨-, q⟩
            · exact .inl q
            · exact .inr q)
          have HX := Lib.hid hnext
          clear hnext
          rcases key with hu | ⟨hu, hm⟩
          · rw [hu] at e1
            clear hu
            go_wp2
            go_roundg (gk - 1)
            case measure => have := HJ.out.1; omega
            case rel =>
              have hjj := HJ.out.1
              have e3 : L.length - (gk - 1) = j + 1 := by omega
              rw [e3]
              exact ⟨by omega, by go_num, rfl, HX.out⟩
          · rw [hu] at e1
            have q3 : decide ((x.n : Int) < (m : Int)) = true := by simp; omega
            have q4 : decide (x.n < m) = true := by simp; omega
            clear hu hm
            go_wp2
            go_roundg (gk - 1)
            case measure => have := HJ.out.1; omega
            case rel =>
              have hjj := HJ.out.1
              have e3 : L.length - (gk - 1) = j + 1 := by omega
              rw [e3]
              exact ⟨by omega, by go_num, rfl, HX.out⟩
        · rw [hu] at e1
          have q3 : decide ((x.n : Int) < (m : Int)) = false := by simp; omega
          have q4 : decide (x.n < m) = false := by simp; omega
          have HU := Lib.hid (And.intro hu hm)
          clear hu hm
          have HCP := Lib.hid (rcopied_calls (H.out.1.below (by rw [H1.out.2.2.2.2]; exact H1.out.1)) (fun b hb => (H.out.2.1.slen).2.2 b hb) H.out.2.1.slen.1)
          go_wp2_with fail
          refine HCP.out.mono ?_
          rintro e3 w3 ⟨tv, TL, rfl, hRT, hST, hBT⟩
          obtain ⟨ta, tcap, rfl, htn, -, htc⟩ := hRT.ref.form
          have hjt : j < TL.length := by rw [hRT.len, ← H.out.1.len]; exact hlt
          obtain ⟨y, hy⟩ : ∃ y, TL[j]? = some y := ⟨_, List.getElem?_eq_getElem hjt⟩
          obtain ⟨tg, toff, rfl, y0, y1⟩ := htc j y hy
          have hyb := hRT.blk j y b hy HB.out.2.1
          go_upto_region 9 with fail
          obtain ⟨tb, htb⟩ : ∃ tb, w3.heap.size = tb := ⟨_, rfl⟩
          obtain ⟨W, hW⟩ : ∃ W, w3.alloc (.cells #[.slice (some ⟨tg, toff, none⟩) TL.length tcap] 59) = W := ⟨_, rfl⟩
          have tW : Turn (fun _ => False) w3 W := by rw [← hW]; exact (Turn.refl (fun _ => False) w3).alloc _
          have hzW : W.heap.size = w3.heap.size + 1 := by rw [← hW]; simp
          have z0 : W.cell? ⟨tb, 0, none⟩ = some (.slice (some ⟨tg, toff, none⟩) TL.length tcap) := by rw [← hW, ← htb]; exact cell_at (heap_alloc_new w3 _) rfl
          rw [hW, htb]
          have tgl : tg < w3.heap.size := cell_lt y0
          have y0 : W.cell? ⟨tg, toff + j * 2, none⟩ = some (.slice y.a y.n y.cap) := (tW.cell (p := ⟨tg, toff + j * 2, none⟩) id tgl).trans y0
          have yf : W.frozen? ⟨tg, toff + j * 2, none⟩ = false := (tW.frozen (p := ⟨tg, toff + j * 2, none⟩) id tgl).trans (SliceAt.frozen hRT.ref _)
          have tgb : tg ≠ tb := by omega
          have hTW : RC W (.slice (some ⟨tg, toff, none⟩) TL.length tcap) TL S := hRT.turn tW (fun _ _ => id) (fun _ _ _ _ => id)
          obtain ⟨z, hz⟩ : ∃ z, y.n = z := ⟨_, rfl⟩
          have hzs : z = b.size := by rw [← hz]; exact hyb.1
          have hbs := (H.out.2.1.slen).2.2 b (List.mem_of_getElem? HB.out.2.1)
          rw [hz] at y0
          obtain ⟨W2, hW2⟩ : ∃ W2, W.drew.alloc (.cells (icells (zeros z)).toArray 3) = W2 := ⟨_, rfl⟩
          have t2 : Turn (fun _ => False) W W2 := by rw [← hW2]; exact ((Turn.refl (fun _ => False) W).drew).alloc _
          have hz2 : W2.heap.size = W.heap.size + 1 := by rw [← hW2]; simp
          have hnew : W2.heap[W.heap.size]? = some (.cells (icells (zeros z)).toArray 3 (0, 0)) := by rw [← hW2]; exact heap_alloc_new W.drew _
          have v0 : W2.cell? ⟨tb, 0, none⟩ = some (.slice (some ⟨tg, toff, none⟩) TL.length tcap) := (t2.cell (p := ⟨tb, 0, none⟩) id (by show tb < _; omega)).trans z0
          have v1 : W2.cell? ⟨tg, toff + j * 2, none⟩ = some (.slice y.a z y.cap) := (t2.cell (p := ⟨tg, toff + j * 2, none⟩) id (by show tg < _; omega)).trans y0
          have v2 : W2.frozen? ⟨tg, toff + j * 2, none⟩ = false := (t2.frozen (p := ⟨tg, toff + j * 2, none⟩) id (by show tg < _; omega)).trans yf
          have hT2 : RC W2 (.slice (some ⟨tg, toff, none⟩) TL.length tcap) TL S := hTW.turn t2 (fun _ _ => id) (fun _ _ _ _ => id)
          obtain ⟨ny, hny⟩ : ∃ ny : RN, ny = ⟨some ⟨W.heap.size, 0, none⟩, z, z, y.u⟩ := ⟨_, rfl⟩
          obtain ⟨W3, hW3⟩ : ∃ W3, W2.setCell ⟨tg, toff + j * 2, none⟩ (.slice (some ⟨W.heap.size, 0, none⟩) z z) = W3 := ⟨_, rfl⟩
          have t3 : Turn (fun k => k = tg) W2 W3 := by rw [← hW3]; exact (Turn.refl (fun k => k = tg) W2).setCell (p := ⟨tg, toff + j * 2, none⟩) (fun _ => rfl) _
          have hs3 : SliceAt W3 108 2 (.slice (some ⟨tg, toff, none⟩) TL.length tcap) (rcells (TL.set j ny)) := by
            have := SliceAt.set hT2.ref (j * 2) ny.val (by rw [rcells_length]; omega)
            rw [rcells_set1 hy (by rw [hny])] at this
            rw [← hW3]
            rw [hny] at this ⊢
            exact this
          have hnws : SliceAt W2 3 1 ny.val (icells (zeros z)) := by
            have := SliceAt.made (sz := 1) hnew (n := z) (by simp [zeros]) (by unfold maxLen; omega)
            rw [hny]
            simpa [RN.val] using this
          have hnown : ∀ k, ny.val.ownBlock = some k → k = W.heap.size := fun k hk => by rw [hny] at hk; simp [RN.val, Value.ownBlock] at hk; omega
          have hnbk : RBk W2 ny b := ⟨by rw [hny]; exact hzs, by rw [hny]; exact hyb.2.1, zeros z, by simp [zeros, hzs], hnws, fun e => by rw [← HB.out.2.2.2.2, HU.out.1] at e; cases e⟩
          have hTg : ∀ q ∈ TL, ∀ k, q.val.ownBlock = some k → k ≠ tg := fun q hq k hk e => hST.nv q hq k hk (by rw [e]; rfl)
          have hT3 : RC W3 (.slice (some ⟨tg, toff, none⟩) TL.length tcap) (TL.set j ny) S := by
            have := hT2.poke (y := ny) (b' := b) hs3 t3 hnbk (fun k hk => by have := hnown k hk; omega) hTg
            rwa [set_self HB.out.2.1] at this
          have hAp3 : Ap n0 (TL.set j ny) := Ap.set (hST.mono (by have := H1.out.2.2.2.1; omega)).ap fun k hk => ⟨by have := hnown k hk; have := H1.out.2.2.2.1; have := hBT.size; omega, fun q hq e => by have := hTW.blt q hq k e; have := hnown k hk; omega⟩
          have hnws3 : SliceAt W3 3 1 (.slice ny.a ny.n ny.cap) (icells (zeros z)) := SliceAt.turn hnws t3 fun k hk e => by have := hnown k hk; omega
          have hB3 : Below n0 w W3 := by
            have h1 := hBT.mono (by omega : n0 ≤ wr.heap.size)
            have h2 := hBT.size
            have h3 : n0 ≤ tg := by have := hST.vl tg rfl; omega
            have h4 : Below n0 w3 W3 := ⟨by rw [t3.os, t2.os, tW.os], by rw [t3.tape, t2.tape, tW.tape], by rw [t3.output, t2.output, tW.output], by have := t3.size; omega, fun k hk => by rw [t3.block k (by omega) (by omega), t2.block k (by omega) id, tW.block k (by omega) id]⟩
            exact (H1.out.1.trans h1).trans h4
          have s0 : W3.cell? ⟨n0, 0, none⟩ = some (.slice (some ⟨bb, off, none⟩) L.length cap) := by
            rw [t3.cell (p := ⟨n0, 0, none⟩) (show ¬ n0 = tg by have := hST.vl tg rfl; omega) (by show n0 < _; have := hBT.size; omega), t2.cell (p := ⟨n0, 0, none⟩) id (by show n0 < _; have := hBT.size; omega), tW.cell (p := ⟨n0, 0, none⟩) id (by show n0 < _; have := hBT.size; omega), hBT.cell (p := ⟨n0, 0, none⟩) (by show n0 < _; omega)]
            exact c0
          have s1 : W3.cell? ⟨tb, 0, none⟩ = some (.slice (some ⟨tg, toff, none⟩) TL.length tcap) := (t3.cell (p := ⟨tb, 0, none⟩) (show ¬ tb = tg by omega) (by show tb < _; omega)).trans v0
          have s2 : W3.heap[n0 + 1]? = some (.cells #[.slice none 0 0] 59 (0, 0)) := by
            have h2 := hBT.size
            rw [t3.block (n0 + 1) (by omega) (by have := hST.vl tg rfl; omega), t2.block (n0 + 1) (by omega) id, tW.block (n0 + 1) (by omega) id, hBT.block (n0 + 1) hrb]
            exact H1.out.2.2.1
          have hsp := fun (w5 : World) (hb5 : Below W3.heap.size W3 w5) => rsplit_calls (hT3.below hb5) hAp3 (by have := hb5.size; have := hB3.size; have := H1.out.2.2.2.2; omega) (by have := H.out.2.1.slen.2.1; omega) H.out.2.1.slen.1 (i := j) (n := m) (x := ny) (b := b) (ws := zeros z) (by rw [List.getElem?_set, if_pos rfl, if_pos (by omega)]) HB.out.2.1 (by rw [hny]; exact hzs) (SliceAt.keep hnws3 fun k hk => hb5.block k (SliceAt.lt hnws3 k hk)) (by simp [zeros, hzs]) (by have := H.out.2.2.2.2.1.1; omega) (by rw [← HB.out.2.2.2.1]; have := HU.out.2; omega) (by omega)
          rw [zeros_cut z m (by have := HU.out.2; have := HB.out.2.2.2.1; omega)] at hsp
          have hnorm := get_norm (k := k) H.out.2.1 HB.out.2.1 (by rw [← HB.out.2.2.2.2]; exact HU.out.1) (by rw [H.out.2.2.2.1, ← HB.out.2.2.2.1]; have := HU.out.2; omega)
          rw [H.out.2.2.2.1] at hnorm
          rw [hnorm] at hsp
          have HSP := Lib.hid hsp
          have H3 := Lib.hid (And.intro hB3 (And.intro s0 (And.intro s1 (And.intro s2 hT3))))
          have HW3 := Lib.hid hW3
          clear hW3
          have HW2 := Lib.hid hW2
          have HZ := Lib.hid (show z ≤ 100000 by omega)
          clear hsp hnorm hB3 s0 s1 s2 hT3 hAp3 hnws3 hTg hnbk hnown hnws hs3 t3 hT2 hnew hz2 t2 hbs hzs hTW tW hzW hyb hy htn htc hRT hST hBT HCP hW hW2 htb hny y1
          refine wp_region_planG (aF := ?aF9) [10, 13] [[], [10], [10, 13]] 2 [(0, 0, 0), (0, 1, 1), (1, 0, 0), (1, 1, 1), (2, 0, 0), (2, 1, 1), (3, 0, 0), (3, 1, 1), (4, 0, 0), (4, 1, 1), (5, 0, 0), (5, 1, 1), (6, 0, 0), (6, 1, 1), (7, 0, 0), (8, 0, 0), (9, 0, 0), (10, 0, 1), (11, 1, 1), (12, 1, 1), (13, 1, 2)]
            [W.drew, W2, W2.setCell ⟨tg, toff + j * 2, none⟩ (.slice (some ⟨W.heap.size, 0, none⟩) z z)]
            [.pointer (some ⟨tb, 0, none⟩), .slice (some ⟨tg, toff, none⟩) TL.length tcap, .int .i64 j, .pointer (some ⟨tb, 0, none⟩), .slice (some ⟨tg, toff, none⟩) TL.length tcap, .int .i64 j, .pointer (some ⟨tg, toff + j * 2, none⟩), .pointer (some ⟨tg, toff + j * 2, none⟩), .slice y.a z y.cap, .int .i64 z, .slice (some ⟨W.heap.size, 0, none⟩) z z, .pointer (some ⟨tg, toff + j * 2, none⟩), .pointer (some ⟨tg, toff + j * 2, none⟩), undef]
            (by kernel_rfl) (by kernel_rfl) ?hF9 rfl rfl rfl ?hob9 ?hend9
          case hF9 => simp only [putAll, Act.put]; go_simp; rfl
          case hob9 =>
            repeat' (first
              | exact oblsG_nil
              | (refine oblsG_cons rfl rfl rfl ?_ ?_)
              | exact Runs.value rfl rfl rfl
              | (apply Runs.skip rfl rfl; (focus (go_simp; try exact rfl)); exact rfl)
              | (apply Runs.value rfl; (focus (go_simp; try exact rfl)); exact rfl)
              | (apply Runs.value rfl; (focus (go_simp; rw [make_ints (z : Int) z rfl HZ.out W.drew, HW2.out]; try exact rfl)); exact rfl))
          case hend9 =>
            rw [HW3.out]
            clear v0 v1 v2 z0 y0 yf hz
            go_upto_region 10 with fail
            have hrs : Go.Sto.rsz L ≤ 32000 := by rw [H.out.1.rszall]; exact H.out.2.1.slen.2.1
            have hat := fun (w' : World) (hB : Below n0 w w') => rat_calls (w := w') (H.out.1.ref.below (by rw [H1.out.2.2.2.2]; exact hB)) hrs (by omega) j (by omega)
            obtain ⟨A, hA⟩ : ∃ A : Int, 1 + ((Go.Sto.rsz (L.take j) : Nat) : Int) = A := ⟨_, rfl⟩
            rw [hA] at hat
            rw [H.out.1.rsz] at hA
            have HAT := Lib.hid hat
            have HA := Lib.hid hA
            have s0 := H3.out.2.1
            have s1 := H3.out.2.2.1
            have hn03 : n0 + 1 < W3.heap.size := heap_lt H3.out.2.2.2.1
            have htb3 : tb < W3.heap.size := cell_lt s1
            have hnl : ny.n = ny.n := rfl
            clear hat hA hrs hnl
            obtain ⟨T, hT⟩ : ∃ T, S.take j ++ ⟨m, true, zeros (m - 1)⟩ :: (rest b.size m ++ S.drop (j + 1)) = T := ⟨_, rfl⟩
            have hsp := HSP.out
            rw [hT] at hsp
            have HSP2 := Lib.hid hsp
            have HT := Lib.hid hT
            clear hsp hT HSP
            refine wp_region_planH (aX := ?aXa) [3, 6, 7] [[], [3], [3, 6], [3, 6, 7]] 3 [(0, 0, 0), (1, 0, 0), (2, 0, 0), (3, 0, 1), (4, 0, 0), (4, 1, 1), (5, 0, 0), (5, 1, 1), (6, 1, 2), (7, 2, 3), (8, 3, 3), (9, 3, 3)]
              [.agg #[.slice (some ⟨tg, toff, none⟩) TL.length tcap], .int .i64 j, .int .i64 m, undef, .agg #[.slice (some ⟨bb, off, none⟩) L.length cap], .int .i64 j, undef, undef, .int .i64 A, .int .i64 0]
              (G10 w W3 n0 n0 (n0 + 1) T A) (by kernel_rfl) (by kernel_rfl) rfl ?hXa (fun _ => undef) ?h0a ?hoba ?henda
            case hXa => intro ξ; simp only [mixAll, Act.put]; go_simp; rfl
            case h0a => exact ⟨fun _ => (Below.refl _ W3).drew, (H3.out.1.drew), fun q => absurd q (by decide), fun q => absurd q (by decide), fun q => absurd q (by decide)⟩
            case hoba =>
              refine oblsH_cons rfl (stepH_value rfl rfl ?_) ?_
              · rintro ξ w5 h
                have c := ((h.b0 (by decide)).cell (p := ⟨tb, 0, none⟩) htb3).trans s1
                clear h
                go_simp
                rfl
              refine oblsH_cons rfl (stepH_value rfl rfl (fun _ _ _ => rfl)) ?_
              refine oblsH_cons rfl (stepH_value rfl rfl (fun _ _ _ => rfl)) ?_
              refine oblsH_cons rfl (stepH_call rfl rfl ?_) ?_
              · rintro ξ w5 h
                refine ⟨69, #[.agg #[.slice (some ⟨tg, toff, none⟩) TL.length tcap], .int .i64 j, .int .i64 m], by clear h; go_simp, ?_⟩
                refine (HSP2.out w5 (h.b0 (by decide))).mono ?_
                rintro e6 w6 ⟨v6, L6, rfl, r6, p6, -, b6⟩
                have hz := (h.b0 (by decide)).size
                exact ⟨_, rfl, ⟨fun _ => (h.b0 (by decide)).trans (b6.mono hz), h.b1.trans (b6.mono (by omega)), fun _ => ⟨v6, L6, rfl, r6, p6⟩, fun q => absurd q (by decide), fun q => absurd q (by decide)⟩⟩
              refine oblsH_cons rfl (stepH_value rfl rfl ?_) ?_
              · rintro ξ w5 h
                have c := ((h.b0 (by decide)).cell (p := ⟨n0, 0, none⟩) (by show n0 < _; omega)).trans s0
                clear h
                go_simp
                rfl
              refine oblsH_cons rfl (stepH_value rfl rfl ?_) ?_
              · rintro ξ w5 h
                have c := ((h.b0 (by decide)).cell (p := ⟨n0, 0, none⟩) (by show n0 < _; omega)).trans s0
                clear h
                go_simp
                rfl
              refine oblsH_cons rfl (stepH_value rfl rfl (fun _ _ _ => rfl)) ?_
              refine oblsH_cons rfl (stepH_value rfl rfl (fun _ _ _ => rfl)) ?_
              refine oblsH_cons rfl (stepH_call rfl rfl ?_) ?_
              · rintro ξ w5 h
                refine ⟨56, #[.agg #[.slice (some ⟨bb, off, none⟩) L.length cap], .int .i64 j], by clear h; go_simp, ?_⟩
                refine (HAT.out w5 h.b1).mono ?_
                rintro e6 w6 ⟨rfl, rfl⟩
                have hB : Below w5.heap.size w5 (w5.alloc (.cells #[.slice (some ⟨bb, off, none⟩) L.length cap] 59)) := (Below.refl _ w5).alloc (Nat.le_refl _) _
                have hz := (h.b0 (by decide)).size
                obtain ⟨v5, L5, q5, r5, p5⟩ := h.sp (by decide)
                exact ⟨_, rfl, ⟨fun _ => (h.b0 (by decide)).trans (hB.mono hz), h.b1.trans (hB.mono (by omega)), fun _ => ⟨v5, L5, q5, r5.below hB, p5⟩, fun _ => rfl, fun q => absurd q (by decide)⟩⟩
              refine oblsH_cons rfl (stepH_store rfl rfl rfl ?_) ?_
              · rintro ξ w5 h
                obtain ⟨v5, L5, q5, r5, p5⟩ := h.sp (by decide)
                obtain ⟨ga, gn, gc, rfl, -⟩ := SliceAt.form r5.ref
                have hb := h.b0 (by decide)
                have hh : w5.heap[n0 + 1]? = some (.cells #[.slice none 0 0] 59 (0, 0)) := (hb.block (n0 + 1) hn03).trans H3.out.2.2.2.1
                have r0 : w5.cell? ⟨n0 + 1, 0, none⟩ = some (.slice none 0 0) := cell_at hh rfl
                have r1 : w5.frozen? ⟨n0 + 1, 0, none⟩ = false := frozen_at hh
                have q5' := q5
                refine ⟨w5.setCell ⟨n0 + 1, 0, none⟩ (.slice ga gn gc), ?_, ?_⟩
                · clear h q5 hh hb r5 p5
                  go_simp
                · have t5 : Turn (fun k => k = n0 + 1) w5 (w5.setCell ⟨n0 + 1, 0, none⟩ (.slice ga gn gc)) := (Turn.refl (fun k => k = n0 + 1) w5).setCell (p := ⟨n0 + 1, 0, none⟩) (fun _ => rfl) _
                  have hbx := r5.box hh
                  exact ⟨fun q => absurd q (by decide), h.b1.setCell (p := ⟨n0 + 1, 0, none⟩) (by show n0 ≤ n0 + 1; omega) _, fun _ => ⟨_, L5, q5, r5.turn t5 (fun k hk e => hbx.1 (by rw [hk, e])) (fun y hy k hk e => hbx.2 y hy (by rw [hk, e])), p5⟩, fun _ => h.a (by decide), fun _ => ⟨_, q5, World.cell?_setCell_same' _ _ _ (by rw [r0]; rfl)⟩⟩
              refine oblsH_cons rfl (stepH_value rfl rfl ?_) ?_
              · rintro ξ w5 h
                have q6 := h.a (by decide)
                clear h
                go_simp
                rfl
              refine oblsH_cons rfl (stepH_value rfl rfl (fun _ _ _ => rfl)) ?_
              exact oblsH_nil
            case henda =>
              rintro ξ w7 h
              obtain ⟨v7, q7, c7⟩ := h.c rfl
              have HH := Lib.hid h
              have Q7 := Lib.hid q7
              clear h q7
              go_wp2
              (try simp only [Exit.inBlock, Exit.then]); refine bodyPost_ret (res_ctt (v := v7) rfl _ _ rfl c7) rfl ?_
              obtain ⟨v8, L8, q8, r8, p8⟩ := HH.out.sp (by decide)
              rw [Q7.out] at q8
              cases q8
              have hhit : hit (fits (need k)) 0 S = some j := by
                rw [H.out.2.2.2.1]
                exact hit_idx (p := fits m) HB.out.2.1 (by unfold fits; rw [← HB.out.2.2.2.2, HU.out.1, decide_eq_true (by rw [← HB.out.2.2.2.1]; have := HU.out.2; omega)]; rfl) (fun k c hk hc => HJ.out.2 k c hk hc)
              have e := get_hit H.out.2.2.2.2.2.1 H.out.2.2.2.2.2.2 hhit HB.out.2.1
              rw [H.out.2.2.2.1, HT.out, show (sz (S.take j) : Int) + 1 = A from by rw [← HA.out]; omega] at e
              exact ⟨v7, L8, by rw [e]; rfl, by rw [e]; exact r8, by rw [H1.out.2.2.2.2]; exact HH.out.b1, fun _ => (by rw [H1.out.2.2.2.2]; exact p8), .inr (by rw [H1.out.2.2.2.2]; exact p8)⟩
      · obtain rfl : j = L.length := by have := HJ.out.1; omega
        have hd := H1.out.2.2.1
        have r0 : wr.cell? ⟨n0 + 1, 0, none⟩ = some (.slice none 0 0) := cell_at hd rfl
        have r1 : wr.frozen? ⟨n0 + 1, 0, none⟩ = false := frozen_at hd
        clear hd
        go_wp2
        (try simp only [Exit.inBlock, Exit.then]); refine bodyPost_ret (res_ctt (v := .slice a L.length cap) rfl _ _ rfl (World.cell?_setCell_same' _ _ _ (by rw [r0]; rfl))) rfl ?_
        have e := get_none H.out.2.2.2.2.2.1 H.out.2.2.2.2.2.2 (by
          rw [H.out.2.2.2.1]
          exact hit_none_idx (p := fits m) (fun k c hc => HJ.out.2 k c (by have := (List.getElem?_eq_some_iff.1 hc).1; have := H.out.1.len; omega) hc))
        have hB : Below n0 w (wr.setCell ⟨n0 + 1, 0, none⟩ (.slice a L.length cap)) := H1.out.1.setCell (p := ⟨n0 + 1, 0, none⟩) (by show n0 ≤ n0 + 1; omega) _
        have hB' : Below w.heap.size w (wr.setCell ⟨n0 + 1, 0, none⟩ (.slice a L.length cap)) := by rw [H1.out.2.2.2.2]; exact hB
        exact ⟨_, L, by rw [e]; rfl, by rw [e]; exact H.out.1.below hB', hB', fun q => (by rw [e] at q; cases q), .inl ⟨rfl, rfl⟩⟩
end Go.Sto
