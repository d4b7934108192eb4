/-
  The reference's Grow, walked.
-/
import Derived.Test.YtahfoejffibahaaQStoRMake
set_option linter.unusedVariables false

namespace Go.Sto
open Go.Own Go.RowKit Go.Proofs

theorem resize_take {ws : List Int} {m : Nat} (h : m ≤ ws.length) : resize ws m = ws.take m := by
  unfold resize; rw [List.take_append_of_le_length h]
theorem drop_take1 (ws : List Int) (n : Nat) : (ws.take n).drop 1 = (ws.drop 1).take (n - 1) := by
  cases ws with
  | nil => simp
  | cons x l => cases n <;> simp

theorem join_list {S : St} {j : Nat} {b B' : Blk} (hb : S[j]? = some b) : (S.set j B').take (j + 1) ++ (S.set j B').drop (j + 2) = S.take j ++ B' :: S.drop (j + 2) := by
  have h1 := take_set_drop (c := B') hb
  have h2 : (S.set j B').take (j + 1) = S.take j ++ [B'] := by rw [List.take_add_one, h1.1, h1.2.2]; rfl
  have h3 : (S.set j B').drop (j + 2) = S.drop (j + 2) := List.drop_set_of_lt (by omega)
  rw [h2, h3]; simp
theorem at_list {S C : St} {j : Nat} {B' : Blk} (hj : j < S.length) : (S.take j ++ B' :: C).take j = S.take j ∧ (S.take j ++ B' :: C).drop (j + 1) = C ∧ (S.take j ++ B' :: C)[j]? = some B' := by
  have hl : (S.take j).length = j := by rw [List.length_take]; omega
  refine ⟨?_, ?_, ?_⟩
  · rw [List.take_append_of_le_length (by omega), List.take_take, Nat.min_self]
  · rw [List.drop_append, hl, List.drop_of_length_le (by omega), show j + 1 - j = 1 by omega]; rfl
  · rw [List.getElem?_append_right (by omega), hl, Nat.sub_self]; rfl
theorem join_sz {S : St} {j : Nat} {b c B' : Blk} (hb : S[j]? = some b) (hc : S[j + 1]? = some c) (hB : B'.size = b.size + c.size) : sz (S.take j ++ B' :: S.drop (j + 2)) = sz S ∧ (S.take j ++ B' :: S.drop (j + 2)).length ≤ S.length := by
  constructor
  · have h1 : sz (S.take j ++ B' :: S.drop (j + 2)) = sz (S.take j) + (B'.size + sz (S.drop (j + 2))) := by rw [sz_append]; rfl
    have h2 : sz (S.drop (j + 1)) = c.size + sz (S.drop (j + 2)) := by rw [drop_at hc]; rfl
    rw [h1, sz_split hb, h2, hB]; omega
  · have := (List.getElem?_eq_some_iff.1 hc).1
    simp only [List.length_append, List.length_cons, List.length_take, List.length_drop]; omega

def RGrowPost (v0 : Value) (L0 : List RN) (S : St) (a k : Int) (w : World) (e : Ending) (w' : World) : Prop :=
  ∃ v L, e = .returned (.tuple #[.agg #[v], .int .i64 (grow S a k).2.1, .int .i64 (grow S a k).2.2]) ∧ RC w' v L (grow S a k).1 ∧ Below w.heap.size w w' ∧ FromOr v0 L0 w.heap.size v L

set_option maxRecDepth 100000 in
set_option maxHeartbeats 8000000 in
theorem rgrow_calls {w : World} {v : Value} {L : List RN} {S : St} {n : Nat} (h : RC w v L S) (ok : Ok n S) (a0 k0 : Int) :
    Calls Try.prog 58 #[.agg #[v], .int .i64 a0, .int .i64 k0] w (RGrowPost v L S a0 k0 w) := by
  obtain ⟨a, cap, rfl, hn, hc, hcell⟩ := h.ref.form
  have hll : L.length ≤ 16000 := by rw [h.len]; exact ok.slen.1
  have hfd := fun (w' : World) (hB : Below w.heap.size w w') => rfind_calls (h.below hB) ok.slen.2.1 ok.slen.1 a0
  obtain ⟨f, hf⟩ : ∃ f, findV S a0 = f := ⟨_, rfl⟩
  rw [hf] at hfd
  have HF := Lib.hid hf
  have HFD := Lib.hid hfd
  have H := Lib.hid (And.intro h (And.intro ok hcell))
  clear h ok hcell hf hfd
  go_enter Try.func58, Try.ntmps58
  go_wp2_with fail
  obtain ⟨n0, hn0'⟩ : ∃ n0, w.heap.size = n0 := ⟨_, rfl⟩
  obtain ⟨w1, hw1⟩ : ∃ w1, (w.alloc (.cells #[.slice a L.length cap] 59)).alloc (.cells #[.slice none 0 0] 59) = w1 := ⟨_, rfl⟩
  have hB1 : Below n0 w w1 := by rw [← hw1]; exact ((Below.refl _ w).alloc (by omega) _).alloc (by simp; omega) _
  have d0 : w1.cell? ⟨n0, 0, none⟩ = some (.slice a L.length cap) := by rw [← hw1, ← hn0']; exact cell_at ((heap_alloc_lt _ _ _ (by simp)).trans (heap_alloc_new w _)) rfl
  have d1 : w1.heap[n0 + 1]? = some (.cells #[.slice none 0 0] 59 (0, 0)) := by rw [← hw1, ← hn0']; have := heap_alloc_new (w.alloc (.cells #[.slice a L.length cap] 59)) (.cells #[.slice none 0 0] 59); simpa using this
  have hz1 : w1.heap.size = n0 + 2 := by rw [← hw1, ← hn0']; simp
  have hcl := HFD.out w1 (by rw [hn0']; exact hB1)
  rw [hw1, hn0']
  refine hcl.mono ?_
  rintro e wr ⟨rfl, hBr⟩
  have d0 : wr.cell? ⟨n0, 0, none⟩ = some (.slice a L.length cap) := (hBr.cell (p := ⟨n0, 0, none⟩) (by show n0 < _; omega)).trans d0
  have d1 : wr.heap[n0 + 1]? = some (.cells #[.slice none 0 0] 59 (0, 0)) := (hBr.block (n0 + 1) (by omega)).trans d1
  have hB1 : Below n0 w wr := hB1.trans (hBr.mono (by omega))
  have hz1 : n0 + 2 ≤ wr.heap.size := by have := hBr.size; omega
  have H1 := Lib.hid (And.intro hB1 (And.intro d0 (And.intro d1 (And.intro hz1 hn0'))))
  have hrb : n0 + 1 < wr.heap.size := by omega
  have r0 : wr.cell? ⟨n0 + 1, 0, none⟩ = some (.slice none 0 0) := cell_at d1 rfl
  have r1 : wr.frozen? ⟨n0 + 1, 0, none⟩ = false := frozen_at d1
  clear hw1 hB1 d1 hz1 hn0' hcl hBr
  rcases hfo : find a0 S with _ | j
  · have hfv : f = -1 := by rw [← HF.out]; exact findV_none hfo
    subst hfv
    have HN := Lib.hid hfo
    clear hfo
    go_wp2
    (try simp only [Exit.inBlock, Exit.then]); refine bodyPost_ret (res_ctt (v := .slice a L.length cap) rfl _ _ rfl (World.cell?_setCell_same' _ _ _ (by rw [r0]; rfl))) rfl ?_
    have e := grow_bad (k := k0) HN.out
    have hB : Below n0 w (wr.setCell ⟨n0 + 1, 0, none⟩ (.slice a L.length cap)) := H1.out.1.setCell (p := ⟨n0 + 1, 0, none⟩) (by show n0 ≤ n0 + 1; omega) _
    have hB' : Below w.heap.size w (wr.setCell ⟨n0 + 1, 0, none⟩ (.slice a L.length cap)) := by rw [H1.out.2.2.2.2]; exact hB
    exact ⟨_, L, by rw [e]; rfl, by rw [e]; exact H.out.1.below hB', hB', .inl ⟨rfl, rfl⟩⟩
  · obtain ⟨b, hb, hu, ha0⟩ := find_idx hfo
    have hfv : f = (j : Int) := by rw [← HF.out]; exact findV_some hfo
    subst hfv
    have hjs : j < S.length := (List.getElem?_eq_some_iff.1 hb).1
    have HN := Lib.hid (And.intro hfo (And.intro hb (And.intro hu hjs)))
    have hj16 : j ≤ 16000 := by have := H.out.2.1.slen.1; omega
    have q0 : decide ((j : Int) < 0) = false := decide_eq_false (by omega)
    clear hfo hb hu ha0 hjs
    by_cases hk : k0 < 0 ∨ 32000 < k0
    · have HK := Lib.hid hk
      have f : (decide (k0 < 0) = true) ∨ (decide (k0 < 0) = false ∧ decide (32000 < k0) = true) := by
        by_cases h0 : k0 < 0
        · exact .inl (by simpa using h0)
        · exact .inr ⟨by simpa using h0, by simp; omega⟩
      clear hk
      rcases f with q1 | ⟨q1, q2⟩
      all_goals
        go_wp2
        (try simp only [Exit.inBlock, Exit.then]); refine bodyPost_ret (res_ctt (v := .slice a L.length cap) rfl _ _ rfl (World.cell?_setCell_same' _ _ _ (by rw [r0]; rfl))) rfl ?_
        have e := grow_range HN.out.1 HK.out
        have hB : Below n0 w (wr.setCell ⟨n0 + 1, 0, none⟩ (.slice a L.length cap)) := H1.out.1.setCell (p := ⟨n0 + 1, 0, none⟩) (by show n0 ≤ n0 + 1; omega) _
        have hB' : Below w.heap.size w (wr.setCell ⟨n0 + 1, 0, none⟩ (.slice a L.length cap)) := by rw [H1.out.2.2.2.2]; exact hB
        exact ⟨_, L, by rw [e]; rfl, by rw [e]; exact H.out.1.below hB', hB', .inl ⟨rfl, rfl⟩⟩
    · have h0 : 0 ≤ k0 := by omega
      have h1 : k0 ≤ 32000 := by omega
      have q1 : decide (k0 < 0) = false := by simp; omega
      have q2 : decide (32000 < k0) = false := by simp; omega
      obtain ⟨m, hm⟩ : ∃ m, need k0 = m := ⟨_, rfl⟩
      have HND := Lib.hid (rneed_calls k0 h0 h1 hm)
      have hm0 := need_good k0
      have hmx : m ≤ 100000 := by rw [← hm]; unfold need; omega
      rw [hm] at hm0
      have HK := Lib.hid (And.intro hm (And.intro hm0 (And.intro h0 (And.intro h1 hmx))))
      clear hk h0 h1 hm hm0 hmx
      go_wp2_with fail
      refine (HND.out wr).mono ?_
      rintro e wq ⟨rfl, rfl⟩
      have HCP := Lib.hid (rcopied_calls (H.out.1.below (by rw [H1.out.2.2.2.2]; exact H1.out.1)) (fun b hb => (H.out.2.1.slen).2.2 b hb) H.out.2.1.slen.1)
      go_wp2_with fail
      refine HCP.out.mono ?_
      rintro e3 w3 ⟨tv, TL, rfl, hRT, hST, hBT⟩
      obtain ⟨ta, tcap, rfl, htn, -, htc⟩ := hRT.ref.form
      have hjt : j < TL.length := by rw [hRT.len]; exact HN.out.2.2.2
      obtain ⟨y, hy⟩ : ∃ y, TL[j]? = some y := ⟨_, List.getElem?_eq_getElem hjt⟩
      obtain ⟨tg, toff, rfl, y0, y1⟩ := htc j y hy
      have hyb := hRT.blk j y b hy HN.out.2.1
      go_upto_region 8 with fail
      obtain ⟨tb, htb⟩ : ∃ tb, w3.heap.size = tb := ⟨_, rfl⟩
      obtain ⟨W, hW⟩ : ∃ W, w3.alloc (.cells #[.slice (some ⟨tg, toff, none⟩) TL.length tcap] 59) = W := ⟨_, rfl⟩
      have tW : Turn (fun _ => False) w3 W := by rw [← hW]; exact (Turn.refl (fun _ => False) w3).alloc _
      have hzW : W.heap.size = w3.heap.size + 1 := by rw [← hW]; simp
      have zh : W.heap[tb]? = some (.cells #[.slice (some ⟨tg, toff, none⟩) TL.length tcap] 59 (0, 0)) := by rw [← hW, ← htb]; exact heap_alloc_new w3 _
      have z0 : W.cell? ⟨tb, 0, none⟩ = some (.slice (some ⟨tg, toff, none⟩) TL.length tcap) := cell_at zh rfl
      rw [hW, htb]
      have tgl : tg < w3.heap.size := cell_lt y0
      have y0 : W.cell? ⟨tg, toff + j * 2, none⟩ = some (.slice y.a y.n y.cap) := (tW.cell (p := ⟨tg, toff + j * 2, none⟩) id tgl).trans y0
      obtain ⟨z, hz⟩ : ∃ z, y.n = z := ⟨_, rfl⟩
      have hzs : z = b.size := by rw [← hz]; exact hyb.1
      rw [hz] at y0
      have hbs := (H.out.2.1.slen).2.2 b (List.mem_of_getElem? HN.out.2.1)
      have hTW : RC W (.slice (some ⟨tg, toff, none⟩) TL.length tcap) TL S := hRT.turn tW (fun _ _ => id) (fun _ _ _ _ => id)
      have hBW : Below n0 w W := (H1.out.1.trans (hBT.mono (by omega))).trans (tW.below0 (by have := hBT.size; omega))
      have hsW : W.cell? ⟨n0, 0, none⟩ = some (.slice a L.length cap) := by
        rw [tW.cell (p := ⟨n0, 0, none⟩) id (by show n0 < _; have := hBT.size; omega), hBT.cell (p := ⟨n0, 0, none⟩) (by show n0 < _; omega)]
        exact d0
      have hrW : W.heap[n0 + 1]? = some (.cells #[.slice none 0 0] 59 (0, 0)) := by
        rw [tW.block (n0 + 1) (by have := hBT.size; omega) id, hBT.block (n0 + 1) hrb]
        exact H1.out.2.2.1
      have hord : n0 + 1 < tg ∧ tg < tb ∧ W.heap.size = tb + 1 ∧ w.heap.size = n0 := ⟨by have h2 := hST.vl tg rfl; have h3 := H1.out.2.2.2.1; omega, by omega, by omega, H1.out.2.2.2.2⟩
      obtain ⟨ws, hws, hwc, hwd⟩ := (hTW.blk j y b hy HN.out.2.1).2.2
      have HW := Lib.hid (And.intro hTW (And.intro (hST.mono (by have := H1.out.2.2.2.1; omega : n0 ≤ _)) (And.intro hBW (And.intro hsW (And.intro hrW (And.intro hord (And.intro zh (And.intro hy (And.intro hyb (And.intro (show z = b.size ∧ z ≤ 32000 by omega) (And.intro hws (And.intro hwc (hwd HN.out.2.2.1)))))))))))))
      have hzx : z ≤ 32000 := by omega
      clear hTW hST hBW hsW hrW hord zh hy hyb hzs hbs hws hwc hwd tW hzW hRT hBT htc htn hW htb HCP y1 tgl d0 r0 r1 hz
      go_upto_region 9 with fail
      rcases tight_or b (S.drop (j + 1)) m with ht | ⟨SB, hbh⟩
      · have hlt := HN.out.2.2.2
        have hm := ht.1
        have hA : Norm (S.take j) := by have h1 := H.out.2.1.norm; rw [split_at HN.out.2.1] at h1; exact (norm_append.1 h1).1
        have hfnd : find a0 (S.take j ++ b :: S.drop (j + 1)) = some (S.take j).length := by rw [← split_at HN.out.2.1, List.length_take, Nat.min_eq_left (by omega)]; exact HN.out.1
        have hmk := HK.out.1
        have hfail : ∀ T tq e, get S k0 = (T, tq, e) → e ≠ 0 → grow S a0 k0 = (S, 0, e) := fun T tq e h1 h2 => by
          have := grow_fail (a := a0) hfnd HK.out.2.2.1 HK.out.2.2.2.1 (by rw [hmk]; exact ht) (by rw [← split_at HN.out.2.1]; exact h1) h2
          rwa [← split_at HN.out.2.1] at this
        have hmove : ∀ T tq q, get S k0 = (T, tq, 0) → find tq T = some q → grow S a0 k0 = ((put (setWords T q (resize b.ws (m - 1))) a0).1, tq, 0) := fun T tq q h1 h2 => by
          have := grow_moves (a := a0) hfnd HK.out.2.2.1 HK.out.2.2.2.1 (by rw [hmk]; exact ht) (by rw [← split_at HN.out.2.1]; exact h1) h2
          rwa [← split_at HN.out.2.1, hmk] at this
        have hzz := HW.out.2.2.2.2.2.2.2.2.2.1
        have q3 : decide ((m : Int) ≤ (z : Int)) = false := decide_eq_false (by omega)
        have q4 : decide (m ≤ z) = false := decide_eq_false (by omega)
        obtain ⟨p, hp⟩ : ∃ p, j + 1 = p := ⟨_, rfl⟩
        have hj16' : TL.length ≤ 16000 := by rw [HW.out.1.len]; exact H.out.2.1.slen.1
        obtain ⟨w3', w4'⟩ := wrap_sum' j 1 (by omega)
        have w5 : IntKind.i64.wrap ((j : Int) + 1) = (p : Int) := by rw [← Int.natCast_one, w3']; omega
        have w6 : wrap64 ((j : Int) + 1) = (p : Int) := by rw [← Int.natCast_one, w4']; omega
        have HW56 := Lib.hid (And.intro w5 w6)
        clear w5 w6 w3' w4'
        have hgt := rget_calls HW.out.1 H.out.2.1 k0
        have HGT := Lib.hid hgt
        have HF2 := Lib.hid (And.intro hfail (And.intro hmove (And.intro hm hp)))
        have key : (¬ p < TL.length) ∨ (p < TL.length ∧ W.cell? ⟨tg, toff + p * 2 + 1, none⟩ = some (.bool true)) ∨ (p < TL.length ∧ ∃ (yc : RN) (zc : Nat), W.cell? ⟨tg, toff + p * 2 + 1, none⟩ = some (.bool false) ∧ W.cell? ⟨tg, toff + p * 2, none⟩ = some (.slice yc.a zc yc.cap) ∧ zc ≤ 32000 ∧ ¬ m ≤ z + zc) := by
          by_cases hpl : p < TL.length
          · right
            obtain ⟨yc, hyc⟩ : ∃ yc, TL[p]? = some yc := ⟨_, List.getElem?_eq_getElem hpl⟩
            obtain ⟨c, hcS, hycb⟩ := HW.out.1.get hyc
            obtain ⟨ta', tcap', hte, -, -, htc⟩ := HW.out.1.ref.form
            cases hte
            obtain ⟨tg', toff', hte, c0, c1⟩ := htc p yc hyc
            cases hte
            have hycu := hycb.2.1
            have hcs := (H.out.2.1.slen).2.2 c (List.mem_of_getElem? hcS)
            cases hcu : c.used with
            | true =>
              rw [hcu] at hycu
              rw [hycu] at c1
              exact .inl ⟨hpl, c1⟩
            | false =>
              rw [hcu] at hycu
              rw [hycu] at c1
              have hd : S.drop (j + 1) = c :: S.drop (j + 2) := by rw [hp]; rw [drop_at hcS, ← hp]
              refine .inr ⟨hpl, yc, yc.n, c1, c0, by rw [hycb.1]; omega, fun e => ht.2 c _ hd ⟨hcu, ?_⟩⟩
              rw [hycb.1] at e
              omega
          · exact .inl hpl
        clear hlt hA hfnd hmk hfail hmove hzz hj16' hgt ht hp hm
        rcases key with hpl | ⟨hpl, c1⟩ | ⟨hpl, yc, zc, c1, c0, hzc, hmz⟩
        · have q5 : decide ((p : Int) < (TL.length : Int)) = false := decide_eq_false (by omega)
          have q6 : decide (p < TL.length) = false := decide_eq_false hpl
          clear hpl
          obtain ⟨w5, w6⟩ := HW56.out
          go_upto_region 15 with fail
          clear q3 q4 q5 q6 w5 w6
          obtain ⟨T, tq, er, hge⟩ : ∃ T tq er, get S k0 = (T, tq, er) := ⟨_, _, _, rfl⟩
          have hok := H.out.2.1
          have hok2 : ∀ c ∈ S, 2 ≤ c.size := fun c hc => (hok.good c hc).two
          have hfd := fun he : er = 0 => get_find hok HK.out.2.2.1 HK.out.2.2.2.1 (by rw [hge]; exact he)
          rw [hge, HK.out.1] at hfd
          have hfl := HF2.out.1 T tq er hge
          have hmv := fun q (he : er = 0) => HF2.out.2.1 T tq q (by rw [hge, he])
          have HFD := Lib.hid (And.intro hfd (And.intro hfl hmv))
          have HGE := Lib.hid hge
          clear hge hok hfd hfl hmv
          go_wp2_with fail
          refine HGT.out.mono ?_
          rintro e4 w4 ⟨uv, UL, rfl, hRU, hBU, hSU, -⟩
          rw [HGE.out] at hRU hSU ⊢
          dsimp only at hRU hSU ⊢
          obtain ⟨ua, ucap, rfl, hun, -, huc⟩ := hRU.ref.form
          go_upto_region 16 with fail
          obtain ⟨ub, hub⟩ : ∃ ub, w4.heap.size = ub := ⟨_, rfl⟩
          obtain ⟨w5, hw5⟩ : ∃ w5, w4.alloc (.cells #[.slice ua UL.length ucap] 59) = w5 := ⟨_, rfl⟩
          have t5 : Turn (fun _ => False) w4 w5 := by rw [← hw5]; exact (Turn.refl (fun _ => False) w4).alloc _
          have hz5 : w5.heap.size = w4.heap.size + 1 := by rw [← hw5]; simp
          have uh : w5.heap[ub]? = some (.cells #[.slice ua UL.length ucap] 59 (0, 0)) := by rw [← hw5, ← hub]; exact heap_alloc_new w4 _
          rw [hw5, hub]
          obtain ⟨hTW, hST, hBW, hsW, hrW, hord, zh, hy, hyb, hzz, hws, hwc, hwd⟩ := HW.out
          have hzU := hBU.size
          have B5 : Below W.heap.size W w5 := hBU.trans (t5.below0 (by omega))
          have s5 : w5.cell? ⟨n0, 0, none⟩ = some (.slice a L.length cap) := (B5.cell (p := ⟨n0, 0, none⟩) (by show n0 < _; omega)).trans hsW
          have r5 : w5.heap[n0 + 1]? = some (.cells #[.slice none 0 0] 59 (0, 0)) := (B5.block (n0 + 1) (by omega)).trans hrW
          have rc0 : w5.cell? ⟨n0 + 1, 0, none⟩ = some (.slice none 0 0) := cell_at r5 rfl
          have rc1 : w5.frozen? ⟨n0 + 1, 0, none⟩ = false := frozen_at r5
          have hB5 : Below n0 w w5 := hBW.trans (B5.mono (by omega))
          by_cases he : er = 0
          · subst he
            have f1 : ((0 : Int) != 0) = false := rfl
            obtain ⟨jt, hf, hTj, hokT⟩ := HFD.out.1 rfl
            obtain ⟨xu, hxu, hxn, -, ws0, hw0, hwc0, hwd0⟩ := hRU.get' hTj
            have hw0d := hwd0 rfl
            dsimp only at hxn hw0 hw0d
            obtain ⟨vg, voff, rfl, u0, -⟩ := huc jt xu hxu
            have hm2 := HK.out.2.1.1
            rw [show xu.val = .slice xu.a m xu.cap by unfold RN.val; rw [hxn]] at hwc0
            rw [hxn] at u0
            obtain ⟨ug, uoff, hua⟩ := SliceAt.addr hwc0 (by omega)
            rw [hua] at hwc0 u0
            have hwcz : SliceAt W 3 1 (.slice y.a z y.cap) (icells ws) := by
              have h1 := hwc
              rw [show y.val = .slice y.a z y.cap by unfold RN.val; rw [hyb.1, ← hzz.1]] at h1
              exact h1
            have hz2 := hok2 b (List.mem_of_getElem? HN.out.2.1)
            obtain ⟨yg, yoff, hya⟩ := SliceAt.addr hwcz (by omega)
            rw [hya] at hwcz y0
            have hS := hSU rfl
            have hug : W.heap.size ≤ ug := hS.lo xu (List.mem_of_getElem? hxu) ug (by unfold RN.val; rw [hua]; rfl)
            have hugl : ug < w4.heap.size := hRU.blt xu (List.mem_of_getElem? hxu) ug (by unfold RN.val; rw [hua]; rfl)
            have hugv : vg ≠ ug := fun e => hS.nv xu (List.mem_of_getElem? hxu) ug (by unfold RN.val; rw [hua]; rfl) (by rw [← e]; rfl)
            have hvgl : vg < w4.heap.size := SliceAt.lt hRU.ref vg rfl
            have hygl : yg < W.heap.size := SliceAt.lt hwcz yg rfl
            have hRU5 : RC w5 (.slice (some ⟨vg, voff, none⟩) UL.length ucap) UL T := hRU.turn t5 (fun _ _ => id) (fun _ _ _ _ => id)
            have hfi := rfind_calls hRU5 hokT.slen.2.1 hokT.slen.1 tq
            rw [findV_some hf] at hfi
            have HFI := Lib.hid hfi
            have u5 : w5.cell? ⟨ub, 0, none⟩ = some (.slice (some ⟨vg, voff, none⟩) UL.length ucap) := cell_at uh rfl
            have HU := Lib.hid (And.intro hRU (And.intro hS (And.intro hxu (And.intro hxn (And.intro hw0 (And.intro hw0d (And.intro hua (And.intro hTj (And.intro hokT (And.intro hf (And.intro hwcz (And.intro hya (And.intro hwd (And.intro hws hwc0))))))))))))))
            have hz5' := hz5
            have HO := Lib.hid (And.intro hord (And.intro hzU (And.intro hz5' (And.intro hub (And.intro hug (And.intro hugl (And.intro hugv (And.intro hvgl (And.intro hygl (And.intro hzz (And.intro t5 (And.intro B5 (And.intro uh (And.intro r5 (And.intro hB5 (And.intro zh u0))))))))))))))))
            have hzw := HF2.out.2.2.1
            have hzm : z < m := by omega
            have hz22 : 2 ≤ z := by omega
            clear hf hTj hokT hxu hxn hw0 hwc0 hwd0 hw0d hm2 hwcz hz2 hya hua hS hug hugl hugv hvgl hygl hRU5 hfi hok2 hTW hST hBW hsW hrW hord zh hy hyb hzz hws hwc hwd hB5 r5 B5 uh hz5 hz5' t5 hw5 hub hRU hBU hSU huc hzU s5 rc0 rc1 u0 hzw
            go_wp2_with fail
            refine HFI.out.mono ?_
            rintro e6 w6 ⟨rfl, b6⟩
            have hz6 := b6.size
            have t6 : Turn (fun _ => False) w5 w6 := ⟨b6.os, b6.tape, b6.output, b6.size, fun k hk _ => b6.block k hk⟩
            have HB6 := Lib.hid (And.intro b6 t6)
            have hLI0 : SliceAt w6 3 1 (.slice (some ⟨ug, uoff, none⟩) m xu.cap) (icells (cu ws0 ws m 1)) ∧ Turn (fun k => k = ug) w6 w6 := by
              obtain ⟨-, -, -, -, hw0, hw0d, -, -, -, -, -, -, -, -, hwc0⟩ := HU.out
              rw [cu_first hw0 hw0d]
              exact ⟨(SliceAt.turn (SliceAt.turn hwc0 HO.out.2.2.2.2.2.2.2.2.2.2.1 fun _ _ => id) t6 fun _ _ => id), Turn.refl _ _⟩
            have HL0 := Lib.hid hLI0
            clear b6 t6 hLI0 hz6
            go_wp2_with fail
            go_loopg [17] (z - 1) (fun k x wx => k ≤ z - 1 ∧ x = .int .i64 ((z - k : Nat) : Int) ∧ SliceAt wx 3 1 (.slice (some ⟨ug, uoff, none⟩) m xu.cap) (icells (cu ws0 ws m (z - k))) ∧ Turn (fun k => k = ug) w6 wx)
            case atStart =>
              have e1 : z - (z - 1) = 1 := by omega
              rw [e1]
              exact ⟨Nat.le_refl _, rfl, HL0.out⟩
            case round =>
              obtain ⟨hk, rfl, hSl, hTl⟩ := hrel
              obtain ⟨q, hq⟩ : ∃ q, z - gk = q := ⟨_, rfl⟩
              rw [hq] at hSl ⊢
              obtain ⟨hord, hzU, hz5, hub, hug, hugl, hugv, hvgl, hygl, hzz, t5, B5, uh, r5, hB5, zh, u0⟩ := HO.out
              obtain ⟨hRU, hS, hxu, hxn, hw0, hw0d, hua, hTj, hokT, hf, hwcz, hya, hwd, hws, hwc0⟩ := HU.out
              have hz6 := HB6.out.1.size
              have hub_ : ub ≠ ug := by omega
              have hTU : Turn (fun k => k = ug) w4 wr := ((t5.trans HB6.out.2).mono fun _ _ => False.elim).trans hTl
              have hTW : Turn (fun k => k = ug) W wr := Turn.trans ⟨B5.os, B5.tape, B5.output, B5.size, fun k hk _ => B5.block k hk⟩ ((HB6.out.2.mono fun _ _ => False.elim).trans hTl)
              have hT5 : Turn (fun k => k = ug) w5 wr := (HB6.out.2.mono fun _ _ => False.elim).trans hTl
              have x1 : wr.cell? ⟨ub, 0, none⟩ = some (.slice (some ⟨vg, voff, none⟩) UL.length ucap) := (hT5.cell (p := ⟨ub, 0, none⟩) hub_ (by show ub < _; omega)).trans (cell_at uh rfl)
              have x2 : wr.cell? ⟨vg, voff + jt * 2, none⟩ = some (.slice (some ⟨ug, uoff, none⟩) m xu.cap) := (hTU.cell (p := ⟨vg, voff + jt * 2, none⟩) hugv hvgl).trans u0
              have x3 : wr.cell? ⟨tb, 0, none⟩ = some (.slice (some ⟨tg, toff, none⟩) TL.length tcap) := (hTW.cell (p := ⟨tb, 0, none⟩) (show ¬ tb = ug by omega) (by show tb < _; omega)).trans z0
              have x4 : wr.cell? ⟨tg, toff + j * 2, none⟩ = some (.slice (some ⟨yg, yoff, none⟩) z y.cap) := (hTW.cell (p := ⟨tg, toff + j * 2, none⟩) (show ¬ tg = ug by omega) (by show tg < _; omega)).trans y0
              have hjtU : jt < UL.length := (List.getElem?_eq_some_iff.1 hxu).1
              by_cases hlt : q < z
              · obtain ⟨v, hv⟩ : ∃ v, ws[q]? = some v := ⟨_, List.getElem?_eq_getElem (by omega)⟩
                have x5 : wr.cell? ⟨yg, yoff + q, none⟩ = some (.int .i64 v) := (hTW.cell (p := ⟨yg, yoff + q, none⟩) (show ¬ yg = ug by omega) hygl).trans (SliceAt.cells hwcz q _ (by unfold icells; rw [List.getElem?_map, hv]; rfl))
                have hcl : (cu ws0 ws m q).length = m := cu_length hw0 (by omega) (by omega) (by omega)
                obtain ⟨vo, hvo⟩ : ∃ vo, (cu ws0 ws m q)[q]? = some vo := ⟨_, List.getElem?_eq_getElem (by omega)⟩
                have x6 : wr.cell? ⟨ug, uoff + q, none⟩ = some (.int .i64 vo) := SliceAt.cells hSl q _ (by unfold icells; rw [List.getElem?_map, hvo]; rfl)
                have x7 : wr.frozen? ⟨ug, uoff + q, none⟩ = false := SliceAt.frozen hSl _
                have hset := SliceAt.set hSl q (.int .i64 v) (by simp only [icells_length]; omega)
                have hset2 : (icells (cu ws0 ws m q)).set q (.int .i64 v) = icells (cu ws0 ws m (q + 1)) := by
                  rw [← cu_next hw0 (by omega) (by omega) (by omega) hv]; unfold icells; rw [List.map_set]
                rw [hset2] at hset
                have FIN := Lib.hid (And.intro hq (show SliceAt (wr.setCell ⟨ug, uoff + q, none⟩ (.int .i64 v)) 3 1 (.slice (some ⟨ug, uoff, none⟩) m xu.cap) (icells (cu ws0 ws m (q + 1))) ∧ Turn (fun k => k = ug) w6 (wr.setCell ⟨ug, uoff + q, none⟩ (.int .i64 v)) from ⟨hset, hTl.setCell (p := ⟨ug, uoff + q, none⟩) (fun _ => rfl) _⟩))
                have hqm : q < m := by omega
                clear hset hset2 hcl hvo hv hTU hTW hT5 hq hSl hTl hord hzU hz5 hub hug hugl hugv hvgl hygl hzz t5 B5 uh r5 hB5 zh u0 hRU hS hxu hxn hw0 hw0d hua hTj hokT hf hwcz hya hwd hws hwc0 hz6 hub_
                go_upto_region 22 with fail
                refine wp_region_planG (aF := ?aF22a) [17] [[], [17]] 1 [(0, 0, 0), (1, 0, 0), (2, 0, 0), (3, 0, 0), (4, 0, 0), (5, 0, 0), (6, 0, 0), (7, 0, 0), (8, 0, 0), (9, 0, 0), (10, 0, 0), (11, 0, 0), (12, 0, 0), (13, 0, 0), (14, 0, 0), (15, 0, 0), (16, 0, 0), (17, 0, 1)]
                  [wr.drew, wr.drew.setCell ⟨ug, uoff + q, none⟩ (.int .i64 v)]
                  [.pointer (some ⟨ub, 0, none⟩), .slice (some ⟨vg, voff, none⟩) UL.length ucap, .int .i64 jt, .pointer (some ⟨vg, voff + jt * 2, none⟩), .pointer (some ⟨vg, voff + jt * 2, none⟩), .slice (some ⟨ug, uoff, none⟩) m xu.cap, .int .i64 q, .pointer (some ⟨tb, 0, none⟩), .slice (some ⟨tg, toff, none⟩) TL.length tcap, .int .i64 j, .pointer (some ⟨tg, toff + j * 2, none⟩), .pointer (some ⟨tg, toff + j * 2, none⟩), .slice (some ⟨yg, yoff, none⟩) z y.cap, .int .i64 q, .pointer (some ⟨yg, yoff + q, none⟩), .int .i64 v, .pointer (some ⟨ug, uoff + q, none⟩), undef]
                  (by kernel_rfl) (by kernel_rfl) ?hF22a rfl rfl rfl ?hob22a ?hend22a
                case hF22a => simp only [putAll, Act.put]; go_simp; rfl
                case hob22a =>
                  repeat' (first
                    | exact oblsG_nil
                    | (refine oblsG_cons rfl rfl rfl ?_ ?_)
                    | exact Runs.value rfl rfl rfl
                    | (apply Runs.skip rfl rfl; (focus (go_simp; try exact rfl)); exact rfl)
                    | (apply Runs.value rfl; (focus (go_simp; try exact rfl)); exact rfl))
                case hend22a =>
                  go_wp2_with fail
                  go_roundg (gk - 1)
                  case measure => have := FIN.out.1; omega
                  case rel =>
                    have e3 : z - (gk - 1) = q + 1 := by have := FIN.out.1; omega
                    rw [e3]
                    refine ⟨by omega, by go_num, ?_, ?_⟩
                    · exact SliceAt.keep FIN.out.2.1 fun _ _ => rfl
                    · exact ⟨FIN.out.2.2.os, FIN.out.2.2.tape, FIN.out.2.2.output, FIN.out.2.2.size, FIN.out.2.2.block⟩
              · have hqz : q = z := by omega
                rw [hqz] at hSl
                have hwz : ws.length = z := by omega
                rw [← hwz] at hSl
                have hxu' : xu.u = true := (hRU.blk jt xu _ hxu hTj).2.1
                have hsU : SliceAt wr 108 2 (.slice (some ⟨vg, voff, none⟩) UL.length ucap) (rcells (UL.set jt xu)) := by
                  rw [set_selfR hxu]
                  exact SliceAt.turn hRU.ref hTU fun k hk e => by simp [Value.ownBlock] at hk; omega
                have hxv : xu.val = .slice (some ⟨ug, uoff, none⟩) m xu.cap := by unfold RN.val; rw [hxn, hua]
                have hbk : RBk wr xu ⟨m, true, resize b.ws (m - 1)⟩ := ⟨hxn, hxu', cu ws0 ws m ws.length, cu_length hw0 (by omega) (by omega) (Nat.le_refl _), by rw [hxv]; exact hSl, fun _ => by rw [cu_last hw0 (by omega) (by omega), hwd]⟩
                have hRW : RC wr (.slice (some ⟨vg, voff, none⟩) UL.length ucap) UL (T.set jt ⟨m, true, resize b.ws (m - 1)⟩) := by
                  have h1 := hRU.poke2 (y := xu) hsU hTU (fun j' x' hj' hx' k hk e => hS.ap.other hxu hj' hx' (k := k) (by rw [hxv, e]; rfl) hk) hbk
                  rwa [set_selfR hxu] at h1
                have hbS := List.mem_of_getElem? HN.out.2.1
                have hgb := H.out.2.1.good b hbS
                have hokT2 : Ok n (T.set jt ⟨m, true, resize b.ws (m - 1)⟩) := set_ok' hokT hTj (resize b.ws (m - 1)) (by simp [resize, zeros]) fun v hv => by
                  rcases List.mem_append.1 (List.mem_of_mem_take hv) with q | q
                  · exact hgb.wf v q
                  · simp [zeros] at q; rw [q.2]; rfl
                have hpt := rput_calls hRW hokT2 a0
                have hmv := HFD.out.2.2 jt (by first | rfl | trivial) hf
                rw [setWords_set hTj] at hmv
                have HPT := Lib.hid hpt
                have HMV := Lib.hid hmv
                have hBr : Below n0 w wr := hB5.trans ⟨hT5.os, hT5.tape, hT5.output, hT5.size, fun k hk => hT5.block k (by omega) (by omega)⟩
                have uhr : wr.heap[ub]? = some (.cells #[.slice (some ⟨vg, voff, none⟩) UL.length ucap] 59 (0, 0)) := (hT5.block ub (by omega) hub_).trans uh
                have rhr : wr.heap[n0 + 1]? = some (.cells #[.slice none 0 0] 59 (0, 0)) := (hT5.block (n0 + 1) (by omega) (by omega)).trans r5
                have hzr := hT5.size
                have HR := Lib.hid (And.intro hBr (And.intro uhr (And.intro rhr (show n0 + 1 < ub ∧ ub < wr.heap.size by omega))))
                have q9 : decide ((q : Int) < (z : Int)) = false := decide_eq_false (by omega)
                have q10 : decide (q < z) = false := decide_eq_false hlt
                clear hpt hmv hBr uhr rhr hzr hokT2 hgb hbS hRW hbk hxv hsU hxu' hwz hqz x2 x3 x4 hTU hTW hT5 hq hSl hTl hord hzU hz5 hub hug hugl hugv hvgl hygl hzz t5 B5 uh r5 hB5 zh u0 hRU hS hxu hxn hw0 hw0d hua hTj hokT hf hwcz hya hwd hws hwc0 hz6 hub_
                go_wp2_with fail
                refine HPT.out.mono ?_
                rintro e8 w8 ⟨pv, PL, rfl, hRP, hBP, hFP⟩
                obtain ⟨pa, pn, pc, rfl, -⟩ := SliceAt.form hRP.ref
                have uh8 : w8.heap[ub]? = some (.cells #[.slice (some ⟨vg, voff, none⟩) UL.length ucap] 59 (0, 0)) := (hBP.block ub HR.out.2.2.2.2).trans HR.out.2.1
                have rh8 : w8.heap[n0 + 1]? = some (.cells #[.slice none 0 0] 59 (0, 0)) := (hBP.block (n0 + 1) (by have := HR.out.2.2.2; omega)).trans HR.out.2.2.1
                have y8 : w8.cell? ⟨ub, 0, none⟩ = some (.slice (some ⟨vg, voff, none⟩) UL.length ucap) := cell_at uh8 rfl
                have y9 : w8.frozen? ⟨ub, 0, none⟩ = false := frozen_at uh8
                have t9 : Turn (fun k => k = ub) w8 (w8.setCell ⟨ub, 0, none⟩ (.slice pa pn pc)) := (Turn.refl (fun k => k = ub) w8).setCell (p := ⟨ub, 0, none⟩) (fun _ => rfl) _
                obtain ⟨w9, hw9⟩ : ∃ w9, w8.setCell ⟨ub, 0, none⟩ (.slice pa pn pc) = w9 := ⟨_, rfl⟩
                rw [hw9] at t9
                have z9 : w9.cell? ⟨ub, 0, none⟩ = some (.slice pa pn pc) := by rw [← hw9]; exact World.cell?_setCell_same' _ _ _ (by rw [y8]; rfl)
                have rh9 : w9.heap[n0 + 1]? = some (.cells #[.slice none 0 0] 59 (0, 0)) := (t9.block (n0 + 1) (heap_lt rh8) (by have := HR.out.2.2.2; omega)).trans rh8
                have r9 : w9.cell? ⟨n0 + 1, 0, none⟩ = some (.slice none 0 0) := cell_at rh9 rfl
                have r9' : w9.frozen? ⟨n0 + 1, 0, none⟩ = false := frozen_at rh9
                have hbx := hRP.box uh8
                have hRP9 := hRP.turn t9 (fun k hk e => hbx.1 (by rw [hk, e])) (fun q hq k hk e => hbx.2 q hq (by rw [hk, e]))
                have hB9 : Below n0 w w9 := by
                  rw [← hw9]
                  exact (HR.out.1.trans (hBP.mono (by have := HR.out.2.2.2; omega))).setCell (p := ⟨ub, 0, none⟩) (by show n0 ≤ ub; have := HR.out.2.2.2; omega) _
                have hSP : Sep n0 (.slice pa pn pc) PL := by
                  rcases hFP with ⟨e1, e2⟩ | q
                  · rw [e1, e2]; exact HU.out.2.1.mono (by have := HO.out.1; omega)
                  · exact q.mono (by have := HR.out.2.2.2; omega)
                have HG := Lib.hid (And.intro hRP9 (And.intro hB9 (And.intro (hRP9.box rh9) hSP)))
                have HW9 := Lib.hid hw9
                clear hSP hFP hw9 hRP hBP uh8 rh8 t9 rh9 hbx hRP9 hB9
                go_upto_region 24 with fail
                rw [HW9.out]
                clear y8 y9
                go_wp2
                (try simp only [Exit.inBlock, Exit.then]); refine bodyPost_ret (res_ctt (v := .slice pa pn pc) rfl _ _ rfl (World.cell?_setCell_same' _ _ _ (by rw [r9]; rfl))) rfl ?_
                have e := HMV.out
                have t10 : Turn (fun k => k = n0 + 1) w9 (w9.setCell ⟨n0 + 1, 0, none⟩ (.slice pa pn pc)) := (Turn.refl (fun k => k = n0 + 1) w9).setCell (p := ⟨n0 + 1, 0, none⟩) (fun _ => rfl) _
                have hbx := HG.out.2.2.1
                have hB : Below n0 w (w9.setCell ⟨n0 + 1, 0, none⟩ (.slice pa pn pc)) := HG.out.2.1.setCell (p := ⟨n0 + 1, 0, none⟩) (by show n0 ≤ n0 + 1; omega) _
                exact ⟨_, PL, by rw [e]; rfl, by rw [e]; exact HG.out.1.turn t10 (fun k hk e => hbx.1 (by rw [hk, e])) (fun y hy k hk e => hbx.2 y hy (by rw [hk, e])), by rw [H1.out.2.2.2.2]; exact hB, .inr (by rw [H1.out.2.2.2.2]; exact HG.out.2.2.2)⟩
          · have f1 : (er == 0) = false := beq_eq_false_iff_ne.2 he
            have f2 : (er != 0) = true := by simp [bne, f1]
            have HE := Lib.hid (And.intro he (And.intro hB5 r5))
            clear he hTW hST hBW hsW hrW hord zh hy hyb hzz hws hwc hwd hB5 r5 B5 uh hz5 t5 hw5 hub hRU hBU hSU huc hzU
            go_wp2
            (try simp only [Exit.inBlock, Exit.then]); refine bodyPost_ret (res_ctt (v := .slice a L.length cap) rfl _ _ rfl (World.cell?_setCell_same' _ _ _ (by rw [rc0]; rfl))) rfl ?_
            have e := HFD.out.2.1 HE.out.1
            have hB : Below n0 w (w5.setCell ⟨n0 + 1, 0, none⟩ (.slice a L.length cap)) := HE.out.2.1.setCell (p := ⟨n0 + 1, 0, none⟩) (by show n0 ≤ n0 + 1; omega) _
            have hB' : Below w.heap.size w (w5.setCell ⟨n0 + 1, 0, none⟩ (.slice a L.length cap)) := by rw [H1.out.2.2.2.2]; exact hB
            exact ⟨_, L, by rw [e]; rfl, by rw [e]; exact H.out.1.below hB', hB', .inl ⟨rfl, rfl⟩⟩
        · have q5 : decide ((p : Int) < (TL.length : Int)) = true := decide_eq_true (by omega)
          have q6 : decide (p < TL.length) = true := decide_eq_true hpl
          obtain ⟨w5, w6⟩ := HW56.out
          go_upto_region 15 with fail
          clear hpl c1
          clear q3 q4 q5 q6 w5 w6
          obtain ⟨T, tq, er, hge⟩ : ∃ T tq er, get S k0 = (T, tq, er) := ⟨_, _, _, rfl⟩
          have hok := H.out.2.1
          have hok2 : ∀ c ∈ S, 2 ≤ c.size := fun c hc => (hok.good c hc).two
          have hfd := fun he : er = 0 => get_find hok HK.out.2.2.1 HK.out.2.2.2.1 (by rw [hge]; exact he)
          rw [hge, HK.out.1] at hfd
          have hfl := HF2.out.1 T tq er hge
          have hmv := fun q (he : er = 0) => HF2.out.2.1 T tq q (by rw [hge, he])
          have HFD := Lib.hid (And.intro hfd (And.intro hfl hmv))
          have HGE := Lib.hid hge
          clear hge hok hfd hfl hmv
          go_wp2_with fail
          refine HGT.out.mono ?_
          rintro e4 w4 ⟨uv, UL, rfl, hRU, hBU, hSU, -⟩
          rw [HGE.out] at hRU hSU ⊢
          dsimp only at hRU hSU ⊢
          obtain ⟨ua, ucap, rfl, hun, -, huc⟩ := hRU.ref.form
          go_upto_region 16 with fail
          obtain ⟨ub, hub⟩ : ∃ ub, w4.heap.size = ub := ⟨_, rfl⟩
          obtain ⟨w5, hw5⟩ : ∃ w5, w4.alloc (.cells #[.slice ua UL.length ucap] 59) = w5 := ⟨_, rfl⟩
          have t5 : Turn (fun _ => False) w4 w5 := by rw [← hw5]; exact (Turn.refl (fun _ => False) w4).alloc _
          have hz5 : w5.heap.size = w4.heap.size + 1 := by rw [← hw5]; simp
          have uh : w5.heap[ub]? = some (.cells #[.slice ua UL.length ucap] 59 (0, 0)) := by rw [← hw5, ← hub]; exact heap_alloc_new w4 _
          rw [hw5, hub]
          obtain ⟨hTW, hST, hBW, hsW, hrW, hord, zh, hy, hyb, hzz, hws, hwc, hwd⟩ := HW.out
          have hzU := hBU.size
          have B5 : Below W.heap.size W w5 := hBU.trans (t5.below0 (by omega))
          have s5 : w5.cell? ⟨n0, 0, none⟩ = some (.slice a L.length cap) := (B5.cell (p := ⟨n0, 0, none⟩) (by show n0 < _; omega)).trans hsW
          have r5 : w5.heap[n0 + 1]? = some (.cells #[.slice none 0 0] 59 (0, 0)) := (B5.block (n0 + 1) (by omega)).trans hrW
          have rc0 : w5.cell? ⟨n0 + 1, 0, none⟩ = some (.slice none 0 0) := cell_at r5 rfl
          have rc1 : w5.frozen? ⟨n0 + 1, 0, none⟩ = false := frozen_at r5
          have hB5 : Below n0 w w5 := hBW.trans (B5.mono (by omega))
          by_cases he : er = 0
          · subst he
            have f1 : ((0 : Int) != 0) = false := rfl
            obtain ⟨jt, hf, hTj, hokT⟩ := HFD.out.1 rfl
            obtain ⟨xu, hxu, hxn, -, ws0, hw0, hwc0, hwd0⟩ := hRU.get' hTj
            have hw0d := hwd0 rfl
            dsimp only at hxn hw0 hw0d
            obtain ⟨vg, voff, rfl, u0, -⟩ := huc jt xu hxu
            have hm2 := HK.out.2.1.1
            rw [show xu.val = .slice xu.a m xu.cap by unfold RN.val; rw [hxn]] at hwc0
            rw [hxn] at u0
            obtain ⟨ug, uoff, hua⟩ := SliceAt.addr hwc0 (by omega)
            rw [hua] at hwc0 u0
            have hwcz : SliceAt W 3 1 (.slice y.a z y.cap) (icells ws) := by
              have h1 := hwc
              rw [show y.val = .slice y.a z y.cap by unfold RN.val; rw [hyb.1, ← hzz.1]] at h1
              exact h1
            have hz2 := hok2 b (List.mem_of_getElem? HN.out.2.1)
            obtain ⟨yg, yoff, hya⟩ := SliceAt.addr hwcz (by omega)
            rw [hya] at hwcz y0
            have hS := hSU rfl
            have hug : W.heap.size ≤ ug := hS.lo xu (List.mem_of_getElem? hxu) ug (by unfold RN.val; rw [hua]; rfl)
            have hugl : ug < w4.heap.size := hRU.blt xu (List.mem_of_getElem? hxu) ug (by unfold RN.val; rw [hua]; rfl)
            have hugv : vg ≠ ug := fun e => hS.nv xu (List.mem_of_getElem? hxu) ug (by unfold RN.val; rw [hua]; rfl) (by rw [← e]; rfl)
            have hvgl : vg < w4.heap.size := SliceAt.lt hRU.ref vg rfl
            have hygl : yg < W.heap.size := SliceAt.lt hwcz yg rfl
            have hRU5 : RC w5 (.slice (some ⟨vg, voff, none⟩) UL.length ucap) UL T := hRU.turn t5 (fun _ _ => id) (fun _ _ _ _ => id)
            have hfi := rfind_calls hRU5 hokT.slen.2.1 hokT.slen.1 tq
            rw [findV_some hf] at hfi
            have HFI := Lib.hid hfi
            have u5 : w5.cell? ⟨ub, 0, none⟩ = some (.slice (some ⟨vg, voff, none⟩) UL.length ucap) := cell_at uh rfl
            have HU := Lib.hid (And.intro hRU (And.intro hS (And.intro hxu (And.intro hxn (And.intro hw0 (And.intro hw0d (And.intro hua (And.intro hTj (And.intro hokT (And.intro hf (And.intro hwcz (And.intro hya (And.intro hwd (And.intro hws hwc0))))))))))))))
            have hz5' := hz5
            have HO := Lib.hid (And.intro hord (And.intro hzU (And.intro hz5' (And.intro hub (And.intro hug (And.intro hugl (And.intro hugv (And.intro hvgl (And.intro hygl (And.intro hzz (And.intro t5 (And.intro B5 (And.intro uh (And.intro r5 (And.intro hB5 (And.intro zh u0))))))))))))))))
            have hzw := HF2.out.2.2.1
            have hzm : z < m := by omega
            have hz22 : 2 ≤ z := by omega
            clear hf hTj hokT hxu hxn hw0 hwc0 hwd0 hw0d hm2 hwcz hz2 hya hua hS hug hugl hugv hvgl hygl hRU5 hfi hok2 hTW hST hBW hsW hrW hord zh hy hyb hzz hws hwc hwd hB5 r5 B5 uh hz5 hz5' t5 hw5 hub hRU hBU hSU huc hzU s5 rc0 rc1 u0 hzw
            go_wp2_with fail
            refine HFI.out.mono ?_
            rintro e6 w6 ⟨rfl, b6⟩
            have hz6 := b6.size
            have t6 : Turn (fun _ => False) w5 w6 := ⟨b6.os, b6.tape, b6.output, b6.size, fun k hk _ => b6.block k hk⟩
            have HB6 := Lib.hid (And.intro b6 t6)
            have hLI0 : SliceAt w6 3 1 (.slice (some ⟨ug, uoff, none⟩) m xu.cap) (icells (cu ws0 ws m 1)) ∧ Turn (fun k => k = ug) w6 w6 := by
              obtain ⟨-, -, -, -, hw0, hw0d, -, -, -, -, -, -, -, -, hwc0⟩ := HU.out
              rw [cu_first hw0 hw0d]
              exact ⟨(SliceAt.turn (SliceAt.turn hwc0 HO.out.2.2.2.2.2.2.2.2.2.2.1 fun _ _ => id) t6 fun _ _ => id), Turn.refl _ _⟩
            have HL0 := Lib.hid hLI0
            clear b6 t6 hLI0 hz6
            go_wp2_with fail
            go_loopg [17] (z - 1) (fun k x wx => k ≤ z - 1 ∧ x = .int .i64 ((z - k : Nat) : Int) ∧ SliceAt wx 3 1 (.slice (some ⟨ug, uoff, none⟩) m xu.cap) (icells (cu ws0 ws m (z - k))) ∧ Turn (fun k => k = ug) w6 wx)
            case atStart =>
              have e1 : z - (z - 1) = 1 := by omega
              rw [e1]
              exact ⟨Nat.le_refl _, rfl, HL0.out⟩
            case round =>
              obtain ⟨hk, rfl, hSl, hTl⟩ := hrel
              obtain ⟨q, hq⟩ : ∃ q, z - gk = q := ⟨_, rfl⟩
              rw [hq] at hSl ⊢
              obtain ⟨hord, hzU, hz5, hub, hug, hugl, hugv, hvgl, hygl, hzz, t5, B5, uh, r5, hB5, zh, u0⟩ := HO.out
              obtain ⟨hRU, hS, hxu, hxn, hw0, hw0d, hua, hTj, hokT, hf, hwcz, hya, hwd, hws, hwc0⟩ := HU.out
              have hz6 := HB6.out.1.size
              have hub_ : ub ≠ ug := by omega
              have hTU : Turn (fun k => k = ug) w4 wr := ((t5.trans HB6.out.2).mono fun _ _ => False.elim).trans hTl
              have hTW : Turn (fun k => k = ug) W wr := Turn.trans ⟨B5.os, B5.tape, B5.output, B5.size, fun k hk _ => B5.block k hk⟩ ((HB6.out.2.mono fun _ _ => False.elim).trans hTl)
              have hT5 : Turn (fun k => k = ug) w5 wr := (HB6.out.2.mono fun _ _ => False.elim).trans hTl
              have x1 : wr.cell? ⟨ub, 0, none⟩ = some (.slice (some ⟨vg, voff, none⟩) UL.length ucap) := (hT5.cell (p := ⟨ub, 0, none⟩) hub_ (by show ub < _; omega)).trans (cell_at uh rfl)
              have x2 : wr.cell? ⟨vg, voff + jt * 2, none⟩ = some (.slice (some ⟨ug, uoff, none⟩) m xu.cap) := (hTU.cell (p := ⟨vg, voff + jt * 2, none⟩) hugv hvgl).trans u0
              have x3 : wr.cell? ⟨tb, 0, none⟩ = some (.slice (some ⟨tg, toff, none⟩) TL.length tcap) := (hTW.cell (p := ⟨tb, 0, none⟩) (show ¬ tb = ug by omega) (by show tb < _; omega)).trans z0
              have x4 : wr.cell? ⟨tg, toff + j * 2, none⟩ = some (.slice (some ⟨yg, yoff, none⟩) z y.cap) := (hTW.cell (p := ⟨tg, toff + j * 2, none⟩) (show ¬ tg = ug by omega) (by show tg < _; omega)).trans y0
              have hjtU : jt < UL.length := (List.getElem?_eq_some_iff.1 hxu).1
              by_cases hlt : q < z
              · obtain ⟨v, hv⟩ : ∃ v, ws[q]? = some v := ⟨_, List.getElem?_eq_getElem (by omega)⟩
                have x5 : wr.cell? ⟨yg, yoff + q, none⟩ = some (.int .i64 v) := (hTW.cell (p := ⟨yg, yoff + q, none⟩) (show ¬ yg = ug by omega) hygl).trans (SliceAt.cells hwcz q _ (by unfold icells; rw [List.getElem?_map, hv]; rfl))
                have hcl : (cu ws0 ws m q).length = m := cu_length hw0 (by omega) (by omega) (by omega)
                obtain ⟨vo, hvo⟩ : ∃ vo, (cu ws0 ws m q)[q]? = some vo := ⟨_, List.getElem?_eq_getElem (by omega)⟩
                have x6 : wr.cell? ⟨ug, uoff + q, none⟩ = some (.int .i64 vo) := SliceAt.cells hSl q _ (by unfold icells; rw [List.getElem?_map, hvo]; rfl)
                have x7 : wr.frozen? ⟨ug, uoff + q, none⟩ = false := SliceAt.frozen hSl _
                have hset := SliceAt.set hSl q (.int .i64 v) (by simp only [icells_length]; omega)
                have hset2 : (icells (cu ws0 ws m q)).set q (.int .i64 v) = icells (cu ws0 ws m (q + 1)) := by
                  rw [← cu_next hw0 (by omega) (by omega) (by omega) hv]; unfold icells; rw [List.map_set]
                rw [hset2] at hset
                have FIN := Lib.hid (And.intro hq (show SliceAt (wr.setCell ⟨ug, uoff + q, none⟩ (.int .i64 v)) 3 1 (.slice (some ⟨ug, uoff, none⟩) m xu.cap) (icells (cu ws0 ws m (q + 1))) ∧ Turn (fun k => k = ug) w6 (wr.setCell ⟨ug, uoff + q, none⟩ (.int .i64 v)) from ⟨hset, hTl.setCell (p := ⟨ug, uoff + q, none⟩) (fun _ => rfl) _⟩))
                have hqm : q < m := by omega
                clear hset hset2 hcl hvo hv hTU hTW hT5 hq hSl hTl hord hzU hz5 hub hug hugl hugv hvgl hygl hzz t5 B5 uh r5 hB5 zh u0 hRU hS hxu hxn hw0 hw0d hua hTj hokT hf hwcz hya hwd hws hwc0 hz6 hub_
                go_upto_region 22 with fail
                refine wp_region_planG (aF := ?aF22b) [17] [[], [17]] 1 [(0, 0, 0), (1, 0, 0), (2, 0, 0), (3, 0, 0), (4, 0, 0), (5, 0, 0), (6, 0, 0), (7, 0, 0), (8, 0, 0), (9, 0, 0), (10, 0, 0), (11, 0, 0), (12, 0, 0), (13, 0, 0), (14, 0, 0), (15, 0, 0), (16, 0, 0), (17, 0, 1)]
                  [wr.drew, wr.drew.setCell ⟨ug, uoff + q, none⟩ (.int .i64 v)]
                  [.pointer (some ⟨ub, 0, none⟩), .slice (some ⟨vg, voff, none⟩) UL.length ucap, .int .i64 jt, .pointer (some ⟨vg, voff + jt * 2, none⟩), .pointer (some ⟨vg, voff + jt * 2, none⟩), .slice (some ⟨ug, uoff, none⟩) m xu.cap, .int .i64 q, .pointer (some ⟨tb, 0, none⟩), .slice (some ⟨tg, toff, none⟩) TL.length tcap, .int .i64 j, .pointer (some ⟨tg, toff + j * 2, none⟩), .pointer (some ⟨tg, toff + j * 2, none⟩), .slice (some ⟨yg, yoff, none⟩) z y.cap, .int .i64 q, .pointer (some ⟨yg, yoff + q, none⟩), .int .i64 v, .pointer (some ⟨ug, uoff + q, none⟩), undef]
                  (by kernel_rfl) (by kernel_rfl) ?hF22b rfl rfl rfl ?hob22b ?hend22b
                case hF22b => simp only [putAll, Act.put]; go_simp; rfl
                case hob22b =>
                  repeat' (first
                    | exact oblsG_nil
                    | (refine oblsG_cons rfl rfl rfl ?_ ?_)
                    | exact Runs.value rfl rfl rfl
                    | (apply Runs.skip rfl rfl; (focus (go_simp; try exact rfl)); exact rfl)
                    | (apply Runs.value rfl; (focus (go_simp; try exact rfl)); exact rfl))
                case hend22b =>
                  go_wp2_with fail
                  go_roundg (gk - 1)
                  case measure => have := FIN.out.1; omega
                  case rel =>
                    have e3 : z - (gk - 1) = q + 1 := by have := FIN.out.1; omega
                    rw [e3]
                    refine ⟨by omega, by go_num, ?_, ?_⟩
                    · exact SliceAt.keep FIN.out.2.1 fun _ _ => rfl
                    · exact ⟨FIN.out.2.2.os, FIN.out.2.2.tape, FIN.out.2.2.output, FIN.out.2.2.size, FIN.out.2.2.block⟩
              · have hqz : q = z := by omega
                rw [hqz] at hSl
                have hwz : ws.length = z := by omega
                rw [← hwz] at hSl
                have hxu' : xu.u = true := (hRU.blk jt xu _ hxu hTj).2.1
                have hsU : SliceAt wr 108 2 (.slice (some ⟨vg, voff, none⟩) UL.length ucap) (rcells (UL.set jt xu)) := by
                  rw [set_selfR hxu]
                  exact SliceAt.turn hRU.ref hTU fun k hk e => by simp [Value.ownBlock] at hk; omega
                have hxv : xu.val = .slice (some ⟨ug, uoff, none⟩) m xu.cap := by unfold RN.val; rw [hxn, hua]
                have hbk : RBk wr xu ⟨m, true, resize b.ws (m - 1)⟩ := ⟨hxn, hxu', cu ws0 ws m ws.length, cu_length hw0 (by omega) (by omega) (Nat.le_refl _), by rw [hxv]; exact hSl, fun _ => by rw [cu_last hw0 (by omega) (by omega), hwd]⟩
                have hRW : RC wr (.slice (some ⟨vg, voff, none⟩) UL.length ucap) UL (T.set jt ⟨m, true, resize b.ws (m - 1)⟩) := by
                  have h1 := hRU.poke2 (y := xu) hsU hTU (fun j' x' hj' hx' k hk e => hS.ap.other hxu hj' hx' (k := k) (by rw [hxv, e]; rfl) hk) hbk
                  rwa [set_selfR hxu] at h1
                have hbS := List.mem_of_getElem? HN.out.2.1
                have hgb := H.out.2.1.good b hbS
                have hokT2 : Ok n (T.set jt ⟨m, true, resize b.ws (m - 1)⟩) := set_ok' hokT hTj (resize b.ws (m - 1)) (by simp [resize, zeros]) fun v hv => by
                  rcases List.mem_append.1 (List.mem_of_mem_take hv) with q | q
                  · exact hgb.wf v q
                  · simp [zeros] at q; rw [q.2]; rfl
                have hpt := rput_calls hRW hokT2 a0
                have hmv := HFD.out.2.2 jt (by first | rfl | trivial) hf
                rw [setWords_set hTj] at hmv
                have HPT := Lib.hid hpt
                have HMV := Lib.hid hmv
                have hBr : Below n0 w wr := hB5.trans ⟨hT5.os, hT5.tape, hT5.output, hT5.size, fun k hk => hT5.block k (by omega) (by omega)⟩
                have uhr : wr.heap[ub]? = some (.cells #[.slice (some ⟨vg, voff, none⟩) UL.length ucap] 59 (0, 0)) := (hT5.block ub (by omega) hub_).trans uh
                have rhr : wr.heap[n0 + 1]? = some (.cells #[.slice none 0 0] 59 (0, 0)) := (hT5.block (n0 + 1) (by omega) (by omega)).trans r5
                have hzr := hT5.size
                have HR := Lib.hid (And.intro hBr (And.intro uhr (And.intro rhr (show n0 + 1 < ub ∧ ub < wr.heap.size by omega))))
                have q9 : decide ((q : Int) < (z : Int)) = false := decide_eq_false (by omega)
                have q10 : decide (q < z) = false := decide_eq_false hlt
                clear hpt hmv hBr uhr rhr hzr hokT2 hgb hbS hRW hbk hxv hsU hxu' hwz hqz x2 x3 x4 hTU hTW hT5 hq hSl hTl hord hzU hz5 hub hug hugl hugv hvgl hygl hzz t5 B5 uh r5 hB5 zh u0 hRU hS hxu hxn hw0 hw0d hua hTj hokT hf hwcz hya hwd hws hwc0 hz6 hub_
                go_wp2_with fail
                refine HPT.out.mono ?_
                rintro e8 w8 ⟨pv, PL, rfl, hRP, hBP, hFP⟩
                obtain ⟨pa, pn, pc, rfl, -⟩ := SliceAt.form hRP.ref
                have uh8 : w8.heap[ub]? = some (.cells #[.slice (some ⟨vg, voff, none⟩) UL.length ucap] 59 (0, 0)) := (hBP.block ub HR.out.2.2.2.2).trans HR.out.2.1
                have rh8 : w8.heap[n0 + 1]? = some (.cells #[.slice none 0 0] 59 (0, 0)) := (hBP.block (n0 + 1) (by have := HR.out.2.2.2; omega)).trans HR.out.2.2.1
                have y8 : w8.cell? ⟨ub, 0, none⟩ = some (.slice (some ⟨vg, voff, none⟩) UL.length ucap) := cell_at uh8 rfl
                have y9 : w8.frozen? ⟨ub, 0, none⟩ = false := frozen_at uh8
                have t9 : Turn (fun k => k = ub) w8 (w8.setCell ⟨ub, 0, none⟩ (.slice pa pn pc)) := (Turn.refl (fun k => k = ub) w8).setCell (p := ⟨ub, 0, none⟩) (fun _ => rfl) _
                obtain ⟨w9, hw9⟩ : ∃ w9, w8.setCell ⟨ub, 0, none⟩ (.slice pa pn pc) = w9 := ⟨_, rfl⟩
                rw [hw9] at t9
                have z9 : w9.cell? ⟨ub, 0, none⟩ = some (.slice pa pn pc) := by rw [← hw9]; exact World.cell?_setCell_same' _ _ _ (by rw [y8]; rfl)
                have rh9 : w9.heap[n0 + 1]? = some (.cells #[.slice none 0 0] 59 (0, 0)) := (t9.block (n0 + 1) (heap_lt rh8) (by have := HR.out.2.2.2; omega)).trans rh8
                have r9 : w9.cell? ⟨n0 + 1, 0, none⟩ = some (.slice none 0 0) := cell_at rh9 rfl
                have r9' : w9.frozen? ⟨n0 + 1, 0, none⟩ = false := frozen_at rh9
                have hbx := hRP.box uh8
                have hRP9 := hRP.turn t9 (fun k hk e => hbx.1 (by rw [hk, e])) (fun q hq k hk e => hbx.2 q hq (by rw [hk, e]))
                have hB9 : Below n0 w w9 := by
                  rw [← hw9]
                  exact (HR.out.1.trans (hBP.mono (by have := HR.out.2.2.2; omega))).setCell (p := ⟨ub, 0, none⟩) (by show n0 ≤ ub; have := HR.out.2.2.2; omega) _
                have hSP : Sep n0 (.slice pa pn pc) PL := by
                  rcases hFP with ⟨e1, e2⟩ | q
                  · rw [e1, e2]; exact HU.out.2.1.mono (by have := HO.out.1; omega)
                  · exact q.mono (by have := HR.out.2.2.2; omega)
                have HG := Lib.hid (And.intro hRP9 (And.intro hB9 (And.intro (hRP9.box rh9) hSP)))
                have HW9 := Lib.hid hw9
                clear hSP hFP hw9 hRP hBP uh8 rh8 t9 rh9 hbx hRP9 hB9
                go_upto_region 24 with fail
                rw [HW9.out]
                clear y8 y9
                go_wp2
                (try simp only [Exit.inBlock, Exit.then]); refine bodyPost_ret (res_ctt (v := .slice pa pn pc) rfl _ _ rfl (World.cell?_setCell_same' _ _ _ (by rw [r9]; rfl))) rfl ?_
                have e := HMV.out
                have t10 : Turn (fun k => k = n0 + 1) w9 (w9.setCell ⟨n0 + 1, 0, none⟩ (.slice pa pn pc)) := (Turn.refl (fun k => k = n0 + 1) w9).setCell (p := ⟨n0 + 1, 0, none⟩) (fun _ => rfl) _
                have hbx := HG.out.2.2.1
                have hB : Below n0 w (w9.setCell ⟨n0 + 1, 0, none⟩ (.slice pa pn pc)) := HG.out.2.1.setCell (p := ⟨n0 + 1, 0, none⟩) (by show n0 ≤ n0 + 1; omega) _
                exact ⟨_, PL, by rw [e]; rfl, by rw [e]; exact HG.out.1.turn t10 (fun k hk e => hbx.1 (by rw [hk, e])) (fun y hy k hk e => hbx.2 y hy (by rw [hk, e])), by rw [H1.out.2.2.2.2]; exact hB, .inr (by rw [H1.out.2.2.2.2]; exact HG.out.2.2.2)⟩
          · have f1 : (er == 0) = false := beq_eq_false_iff_ne.2 he
            have f2 : (er != 0) = true := by simp [bne, f1]
            have HE := Lib.hid (And.intro he (And.intro hB5 r5))
            clear he hTW hST hBW hsW hrW hord zh hy hyb hzz hws hwc hwd hB5 r5 B5 uh hz5 t5 hw5 hub hRU hBU hSU huc hzU
            go_wp2
            (try simp only [Exit.inBlock, Exit.then]); refine bodyPost_ret (res_ctt (v := .slice a L.length cap) rfl _ _ rfl (World.cell?_setCell_same' _ _ _ (by rw [rc0]; rfl))) rfl ?_
            have e := HFD.out.2.1 HE.out.1
            have hB : Below n0 w (w5.setCell ⟨n0 + 1, 0, none⟩ (.slice a L.length cap)) := HE.out.2.1.setCell (p := ⟨n0 + 1, 0, none⟩) (by show n0 ≤ n0 + 1; omega) _
            have hB' : Below w.heap.size w (w5.setCell ⟨n0 + 1, 0, none⟩ (.slice a L.length cap)) := by rw [H1.out.2.2.2.2]; exact hB
            exact ⟨_, L, by rw [e]; rfl, by rw [e]; exact H.out.1.below hB', hB', .inl ⟨rfl, rfl⟩⟩
        · have q5 : decide ((p : Int) < (TL.length : Int)) = true := decide_eq_true (by omega)
          have q6 : decide (p < TL.length) = true := decide_eq_true hpl
          have hmz2 : ¬ ((m : Int) ≤ (z : Int) + (zc : Int)) := fun e => hmz (by omega)
          have q7 : decide ((m : Int) ≤ (z : Int) + (zc : Int)) = false := decide_eq_false hmz2
          have q8 : decide (m ≤ z + zc) = false := decide_eq_false hmz
          obtain ⟨w7, w8⟩ := wrap_sum' z zc (by have := HW.out.2.2.2.2.2.2.2.2.2.1.2; omega)
          clear hmz hmz2 hzc
          obtain ⟨w5, w6⟩ := HW56.out
          go_upto_region 15 with fail
          clear hpl c1 c0 q7 q8 w7 w8
          clear q3 q4 q5 q6 w5 w6
          obtain ⟨T, tq, er, hge⟩ : ∃ T tq er, get S k0 = (T, tq, er) := ⟨_, _, _, rfl⟩
          have hok := H.out.2.1
          have hok2 : ∀ c ∈ S, 2 ≤ c.size := fun c hc => (hok.good c hc).two
          have hfd := fun he : er = 0 => get_find hok HK.out.2.2.1 HK.out.2.2.2.1 (by rw [hge]; exact he)
          rw [hge, HK.out.1] at hfd
          have hfl := HF2.out.1 T tq er hge
          have hmv := fun q (he : er = 0) => HF2.out.2.1 T tq q (by rw [hge, he])
          have HFD := Lib.hid (And.intro hfd (And.intro hfl hmv))
          have HGE := Lib.hid hge
          clear hge hok hfd hfl hmv
          go_wp2_with fail
          refine HGT.out.mono ?_
          rintro e4 w4 ⟨uv, UL, rfl, hRU, hBU, hSU, -⟩
          rw [HGE.out] at hRU hSU ⊢
          dsimp only at hRU hSU ⊢
          obtain ⟨ua, ucap, rfl, hun, -, huc⟩ := hRU.ref.form
          go_upto_region 16 with fail
          obtain ⟨ub, hub⟩ : ∃ ub, w4.heap.size = ub := ⟨_, rfl⟩
          obtain ⟨w5, hw5⟩ : ∃ w5, w4.alloc (.cells #[.slice ua UL.length ucap] 59) = w5 := ⟨_, rfl⟩
          have t5 : Turn (fun _ => False) w4 w5 := by rw [← hw5]; exact (Turn.refl (fun _ => False) w4).alloc _
          have hz5 : w5.heap.size = w4.heap.size + 1 := by rw [← hw5]; simp
          have uh : w5.heap[ub]? = some (.cells #[.slice ua UL.length ucap] 59 (0, 0)) := by rw [← hw5, ← hub]; exact heap_alloc_new w4 _
          rw [hw5, hub]
          obtain ⟨hTW, hST, hBW, hsW, hrW, hord, zh, hy, hyb, hzz, hws, hwc, hwd⟩ := HW.out
          have hzU := hBU.size
          have B5 : Below W.heap.size W w5 := hBU.trans (t5.below0 (by omega))
          have s5 : w5.cell? ⟨n0, 0, none⟩ = some (.slice a L.length cap) := (B5.cell (p := ⟨n0, 0, none⟩) (by show n0 < _; omega)).trans hsW
          have r5 : w5.heap[n0 + 1]? = some (.cells #[.slice none 0 0] 59 (0, 0)) := (B5.block (n0 + 1) (by omega)).trans hrW
          have rc0 : w5.cell? ⟨n0 + 1, 0, none⟩ = some (.slice none 0 0) := cell_at r5 rfl
          have rc1 : w5.frozen? ⟨n0 + 1, 0, none⟩ = false := frozen_at r5
          have hB5 : Below n0 w w5 := hBW.trans (B5.mono (by omega))
          by_cases he : er = 0
          · subst he
            have f1 : ((0 : Int) != 0) = false := rfl
            obtain ⟨jt, hf, hTj, hokT⟩ := HFD.out.1 rfl
            obtain ⟨xu, hxu, hxn, -, ws0, hw0, hwc0, hwd0⟩ := hRU.get' hTj
            have hw0d := hwd0 rfl
            dsimp only at hxn hw0 hw0d
            obtain ⟨vg, voff, rfl, u0, -⟩ := huc jt xu hxu
            have hm2 := HK.out.2.1.1
            rw [show xu.val = .slice xu.a m xu.cap by unfold RN.val; rw [hxn]] at hwc0
            rw [hxn] at u0
            obtain ⟨ug, uoff, hua⟩ := SliceAt.addr hwc0 (by omega)
            rw [hua] at hwc0 u0
            have hwcz : SliceAt W 3 1 (.slice y.a z y.cap) (icells ws) := by
              have h1 := hwc
              rw [show y.val = .slice y.a z y.cap by unfold RN.val; rw [hyb.1, ← hzz.1]] at h1
              exact h1
            have hz2 := hok2 b (List.mem_of_getElem? HN.out.2.1)
            obtain ⟨yg, yoff, hya⟩ := SliceAt.addr hwcz (by omega)
            rw [hya] at hwcz y0
            have hS := hSU rfl
            have hug : W.heap.size ≤ ug := hS.lo xu (List.mem_of_getElem? hxu) ug (by unfold RN.val; rw [hua]; rfl)
            have hugl : ug < w4.heap.size := hRU.blt xu (List.mem_of_getElem? hxu) ug (by unfold RN.val; rw [hua]; rfl)
            have hugv : vg ≠ ug := fun e => hS.nv xu (List.mem_of_getElem? hxu) ug (by unfold RN.val; rw [hua]; rfl) (by rw [← e]; rfl)
            have hvgl : vg < w4.heap.size := SliceAt.lt hRU.ref vg rfl
            have hygl : yg < W.heap.size := SliceAt.lt hwcz yg rfl
            have hRU5 : RC w5 (.slice (some ⟨vg, voff, none⟩) UL.length ucap) UL T := hRU.turn t5 (fun _ _ => id) (fun _ _ _ _ => id)
            have hfi := rfind_calls hRU5 hokT.slen.2.1 hokT.slen.1 tq
            rw [findV_some hf] at hfi
            have HFI := Lib.hid hfi
            have u5 : w5.cell? ⟨ub, 0, none⟩ = some (.slice (some ⟨vg, voff, none⟩) UL.length ucap) := cell_at uh rfl
            have HU := Lib.hid (And.intro hRU (And.intro hS (And.intro hxu (And.intro hxn (And.intro hw0 (And.intro hw0d (And.intro hua (And.intro hTj (And.intro hokT (And.intro hf (And.intro hwcz (And.intro hya (And.intro hwd (And.intro hws hwc0))))))))))))))
            have hz5' := hz5
            have HO := Lib.hid (And.intro hord (And.intro hzU (And.intro hz5' (And.intro hub (And.intro hug (And.intro hugl (And.intro hugv (And.intro hvgl (And.intro hygl (And.intro hzz (And.intro t5 (And.intro B5 (And.intro uh (And.intro r5 (And.intro hB5 (And.intro zh u0))))))))))))))))
            have hzw := HF2.out.2.2.1
            have hzm : z < m := by omega
            have hz22 : 2 ≤ z := by omega
            clear hf hTj hokT hxu hxn hw0 hwc0 hwd0 hw0d hm2 hwcz hz2 hya hua hS hug hugl hugv hvgl hygl hRU5 hfi hok2 hTW hST hBW hsW hrW hord zh hy hyb hzz hws hwc hwd hB5 r5 B5 uh hz5 hz5' t5 hw5 hub hRU hBU hSU huc hzU s5 rc0 rc1 u0 hzw
            go_wp2_with fail
            refine HFI.out.mono ?_
            rintro e6 w6 ⟨rfl, b6⟩
            have hz6 := b6.size
            have t6 : Turn (fun _ => False) w5 w6 := ⟨b6.os, b6.tape, b6.output, b6.size, fun k hk _ => b6.block k hk⟩
            have HB6 := Lib.hid (And.intro b6 t6)
            have hLI0 : SliceAt w6 3 1 (.slice (some ⟨ug, uoff, none⟩) m xu.cap) (icells (cu ws0 ws m 1)) ∧ Turn (fun k => k = ug) w6 w6 := by
              obtain ⟨-, -, -, -, hw0, hw0d, -, -, -, -, -, -, -, -, hwc0⟩ := HU.out
              rw [cu_first hw0 hw0d]
              exact ⟨(SliceAt.turn (SliceAt.turn hwc0 HO.out.2.2.2.2.2.2.2.2.2.2.1 fun _ _ => id) t6 fun _ _ => id), Turn.refl _ _⟩
            have HL0 := Lib.hid hLI0
            clear b6 t6 hLI0 hz6
            go_wp2_with fail
            go_loopg [17] (z - 1) (fun k x wx => k ≤ z - 1 ∧ x = .int .i64 ((z - k : Nat) : Int) ∧ SliceAt wx 3 1 (.slice (some ⟨ug, uoff, none⟩) m xu.cap) (icells (cu ws0 ws m (z - k))) ∧ Turn (fun k => k = ug) w6 wx)
            case atStart =>
              have e1 : z - (z - 1) = 1 := by omega
              rw [e1]
              exact ⟨Nat.le_refl _, rfl, HL0.out⟩
            case round =>
              obtain ⟨hk, rfl, hSl, hTl⟩ := hrel
              obtain ⟨q, hq⟩ : ∃ q, z - gk = q := ⟨_, rfl⟩
              rw [hq] at hSl ⊢
              obtain ⟨hord, hzU, hz5, hub, hug, hugl, hugv, hvgl, hygl, hzz, t5, B5, uh, r5, hB5, zh, u0⟩ := HO.out
              obtain ⟨hRU, hS, hxu, hxn, hw0, hw0d, hua, hTj, hokT, hf, hwcz, hya, hwd, hws, hwc0⟩ := HU.out
              have hz6 := HB6.out.1.size
              have hub_ : ub ≠ ug := by omega
              have hTU : Turn (fun k => k = ug) w4 wr := ((t5.trans HB6.out.2).mono fun _ _ => False.elim).trans hTl
              have hTW : Turn (fun k => k = ug) W wr := Turn.trans ⟨B5.os, B5.tape, B5.output, B5.size, fun k hk _ => B5.block k hk⟩ ((HB6.out.2.mono fun _ _ => False.elim).trans hTl)
              have hT5 : Turn (fun k => k = ug) w5 wr := (HB6.out.2.mono fun _ _ => False.elim).trans hTl
              have x1 : wr.cell? ⟨ub, 0, none⟩ = some (.slice (some ⟨vg, voff, none⟩) UL.length ucap) := (hT5.cell (p := ⟨ub, 0, none⟩) hub_ (by show ub < _; omega)).trans (cell_at uh rfl)
              have x2 : wr.cell? ⟨vg, voff + jt * 2, none⟩ = some (.slice (some ⟨ug, uoff, none⟩) m xu.cap) := (hTU.cell (p := ⟨vg, voff + jt * 2, none⟩) hugv hvgl).trans u0
              have x3 : wr.cell? ⟨tb, 0, none⟩ = some (.slice (some ⟨tg, toff, none⟩) TL.length tcap) := (hTW.cell (p := ⟨tb, 0, none⟩) (show ¬ tb = ug by omega) (by show tb < _; omega)).trans z0
              have x4 : wr.cell? ⟨tg, toff + j * 2, none⟩ = some (.slice (some ⟨yg, yoff, none⟩) z y.cap) := (hTW.cell (p := ⟨tg, toff + j * 2, none⟩) (show ¬ tg = ug by omega) (by show tg < _; omega)).trans y0
              have hjtU : jt < UL.length := (List.getElem?_eq_some_iff.1 hxu).1
              by_cases hlt : q < z
              · obtain ⟨v, hv⟩ : ∃ v, ws[q]? = some v := ⟨_, List.getElem?_eq_getElem (by omega)⟩
                have x5 : wr.cell? ⟨yg, yoff + q, none⟩ = some (.int .i64 v) := (hTW.cell (p := ⟨yg, yoff + q, none⟩) (show ¬ yg = ug by omega) hygl).trans (SliceAt.cells hwcz q _ (by unfold icells; rw [List.getElem?_map, hv]; rfl))
                have hcl : (cu ws0 ws m q).length = m := cu_length hw0 (by omega) (by omega) (by omega)
                obtain ⟨vo, hvo⟩ : ∃ vo, (cu ws0 ws m q)[q]? = some vo := ⟨_, List.getElem?_eq_getElem (by omega)⟩
                have x6 : wr.cell? ⟨ug, uoff + q, none⟩ = some (.int .i64 vo) := SliceAt.cells hSl q _ (by unfold icells; rw [List.getElem?_map, hvo]; rfl)
                have x7 : wr.frozen? ⟨ug, uoff + q, none⟩ = false := SliceAt.frozen hSl _
                have hset := SliceAt.set hSl q (.int .i64 v) (by simp only [icells_length]; omega)
                have hset2 : (icells (cu ws0 ws m q)).set q (.int .i64 v) = icells (cu ws0 ws m (q + 1)) := by
                  rw [← cu_next hw0 (by omega) (by omega) (by omega) hv]; unfold icells; rw [List.map_set]
                rw [hset2] at hset
                have FIN := Lib.hid (And.intro hq (show SliceAt (wr.setCell ⟨ug, uoff + q, none⟩ (.int .i64 v)) 3 1 (.slice (some ⟨ug, uoff, none⟩) m xu.cap) (icells (cu ws0 ws m (q + 1))) ∧ Turn (fun k => k = ug) w6 (wr.setCell ⟨ug, uoff + q, none⟩ (.int .i64 v)) from ⟨hset, hTl.setCell (p := ⟨ug, uoff + q, none⟩) (fun _ => rfl) _⟩))
                have hqm : q < m := by omega
                clear hset hset2 hcl hvo hv hTU hTW hT5 hq hSl hTl hord hzU hz5 hub hug hugl hugv hvgl hygl hzz t5 B5 uh r5 hB5 zh u0 hRU hS hxu hxn hw0 hw0d hua hTj hokT hf hwcz hya hwd hws hwc0 hz6 hub_
                go_upto_region 22 with fail
                refine wp_region_planG (aF := ?aF22c) [17] [[], [17]] 1 [(0, 0, 0), (1, 0, 0), (2, 0, 0), (3, 0, 0), (4, 0, 0), (5, 0, 0), (6, 0, 0), (7, 0, 0), (8, 0, 0), (9, 0, 0), (10, 0, 0), (11, 0, 0), (12, 0, 0), (13, 0, 0), (14, 0, 0), (15, 0, 0), (16, 0, 0), (17, 0, 1)]
                  [wr.drew, wr.drew.setCell ⟨ug, uoff + q, none⟩ (.int .i64 v)]
                  [.pointer (some ⟨ub, 0, none⟩), .slice (some ⟨vg, voff, none⟩) UL.length ucap, .int .i64 jt, .pointer (some ⟨vg, voff + jt * 2, none⟩), .pointer (some ⟨vg, voff + jt * 2, none⟩), .slice (some ⟨ug, uoff, none⟩) m xu.cap, .int .i64 q, .pointer (some ⟨tb, 0, none⟩), .slice (some ⟨tg, toff, none⟩) TL.length tcap, .int .i64 j, .pointer (some ⟨tg, toff + j * 2, none⟩), .pointer (some ⟨tg, toff + j * 2, none⟩), .slice (some ⟨yg, yoff, none⟩) z y.cap, .int .i64 q, .pointer (some ⟨yg, yoff + q, none⟩), .int .i64 v, .pointer (some ⟨ug, uoff + q, none⟩), undef]
                  (by kernel_rfl) (by kernel_rfl) ?hF22c rfl rfl rfl ?hob22c ?hend22c
                case hF22c => simp only [putAll, Act.put]; go_simp; rfl
                case hob22c =>
                  repeat' (first
                    | exact oblsG_nil
                    | (refine oblsG_cons rfl rfl rfl ?_ ?_)
                    | exact Runs.value rfl rfl rfl
                    | (apply Runs.skip rfl rfl; (focus (go_simp; try exact rfl)); exact rfl)
                    | (apply Runs.value rfl; (focus (go_simp; try exact rfl)); exact rfl))
                case hend22c =>
                  go_wp2_with fail
                  go_roundg (gk - 1)
                  case measure => have := FIN.out.1; omega
                  case rel =>
                    have e3 : z - (gk - 1) = q + 1 := by have := FIN.out.1; omega
                    rw [e3]
                    refine ⟨by omega, by go_num, ?_, ?_⟩
                    · exact SliceAt.keep FIN.out.2.1 fun _ _ => rfl
                    · exact ⟨FIN.out.2.2.os, FIN.out.2.2.tape, FIN.out.2.2.output, FIN.out.2.2.size, FIN.out.2.2.block⟩
              · have hqz : q = z := by omega
                rw [hqz] at hSl
                have hwz : ws.length = z := by omega
                rw [← hwz] at hSl
                have hxu' : xu.u = true := (hRU.blk jt xu _ hxu hTj).2.1
                have hsU : SliceAt wr 108 2 (.slice (some ⟨vg, voff, none⟩) UL.length ucap) (rcells (UL.set jt xu)) := by
                  rw [set_selfR hxu]
                  exact SliceAt.turn hRU.ref hTU fun k hk e => by simp [Value.ownBlock] at hk; omega
                have hxv : xu.val = .slice (some ⟨ug, uoff, none⟩) m xu.cap := by unfold RN.val; rw [hxn, hua]
                have hbk : RBk wr xu ⟨m, true, resize b.ws (m - 1)⟩ := ⟨hxn, hxu', cu ws0 ws m ws.length, cu_length hw0 (by omega) (by omega) (Nat.le_refl _), by rw [hxv]; exact hSl, fun _ => by rw [cu_last hw0 (by omega) (by omega), hwd]⟩
                have hRW : RC wr (.slice (some ⟨vg, voff, none⟩) UL.length ucap) UL (T.set jt ⟨m, true, resize b.ws (m - 1)⟩) := by
                  have h1 := hRU.poke2 (y := xu) hsU hTU (fun j' x' hj' hx' k hk e => hS.ap.other hxu hj' hx' (k := k) (by rw [hxv, e]; rfl) hk) hbk
                  rwa [set_selfR hxu] at h1
                have hbS := List.mem_of_getElem? HN.out.2.1
                have hgb := H.out.2.1.good b hbS
                have hokT2 : Ok n (T.set jt ⟨m, true, resize b.ws (m - 1)⟩) := set_ok' hokT hTj (resize b.ws (m - 1)) (by simp [resize, zeros]) fun v hv => by
                  rcases List.mem_append.1 (List.mem_of_mem_take hv) with q | q
                  · exact hgb.wf v q
                  · simp [zeros] at q; rw [q.2]; rfl
                have hpt := rput_calls hRW hokT2 a0
                have hmv := HFD.out.2.2 jt (by first | rfl | trivial) hf
                rw [setWords_set hTj] at hmv
                have HPT := Lib.hid hpt
                have HMV := Lib.hid hmv
                have hBr : Below n0 w wr := hB5.trans ⟨hT5.os, hT5.tape, hT5.output, hT5.size, fun k hk => hT5.block k (by omega) (by omega)⟩
                have uhr : wr.heap[ub]? = some (.cells #[.slice (some ⟨vg, voff, none⟩) UL.length ucap] 59 (0, 0)) := (hT5.block ub (by omega) hub_).trans uh
                have rhr : wr.heap[n0 + 1]? = some (.cells #[.slice none 0 0] 59 (0, 0)) := (hT5.block (n0 + 1) (by omega) (by omega)).trans r5
                have hzr := hT5.size
                have HR := Lib.hid (And.intro hBr (And.intro uhr (And.intro rhr (show n0 + 1 < ub ∧ ub < wr.heap.size by omega))))
                have q9 : decide ((q : Int) < (z : Int)) = false := decide_eq_false (by omega)
                have q10 : decide (q < z) = false := decide_eq_false hlt
                clear hpt hmv hBr uhr rhr hzr hokT2 hgb hbS hRW hbk hxv hsU hxu' hwz hqz x2 x3 x4 hTU hTW hT5 hq hSl hTl hord hzU hz5 hub hug hugl hugv hvgl hygl hzz t5 B5 uh r5 hB5 zh u0 hRU hS hxu hxn hw0 hw0d hua hTj hokT hf hwcz hya hwd hws hwc0 hz6 hub_
                go_wp2_with fail
                refine HPT.out.mono ?_
                rintro e8 w8 ⟨pv, PL, rfl, hRP, hBP, hFP⟩
                obtain ⟨pa, pn, pc, rfl, -⟩ := SliceAt.form hRP.ref
                have uh8 : w8.heap[ub]? = some (.cells #[.slice (some ⟨vg, voff, none⟩) UL.length ucap] 59 (0, 0)) := (hBP.block ub HR.out.2.2.2.2).trans HR.out.2.1
                have rh8 : w8.heap[n0 + 1]? = some (.cells #[.slice none 0 0] 59 (0, 0)) := (hBP.block (n0 + 1) (by have := HR.out.2.2.2; omega)).trans HR.out.2.2.1
                have y8 : w8.cell? ⟨ub, 0, none⟩ = some (.slice (some ⟨vg, voff, none⟩) UL.length ucap) := cell_at uh8 rfl
                have y9 : w8.frozen? ⟨ub, 0, none⟩ = false := frozen_at uh8
                have t9 : Turn (fun k => k = ub) w8 (w8.setCell ⟨ub, 0, none⟩ (.slice pa pn pc)) := (Turn.refl (fun k => k = ub) w8).setCell (p := ⟨ub, 0, none⟩) (fun _ => rfl) _
                obtain ⟨w9, hw9⟩ : ∃ w9, w8.setCell ⟨ub, 0, none⟩ (.slice pa pn pc) = w9 := ⟨_, rfl⟩
                rw [hw9] at t9
                have z9 : w9.cell? ⟨ub, 0, none⟩ = some (.slice pa pn pc) := by rw [← hw9]; exact World.cell?_setCell_same' _ _ _ (by rw [y8]; rfl)
                have rh9 : w9.heap[n0 + 1]? = some (.cells #[.slice none 0 0] 59 (0, 0)) := (t9.block (n0 + 1) (heap_lt rh8) (by have := HR.out.2.2.2; omega)).trans rh8
                have r9 : w9.cell? ⟨n0 + 1, 0, none⟩ = some (.slice none 0 0) := cell_at rh9 rfl
                have r9' : w9.frozen? ⟨n0 + 1, 0, none⟩ = false := frozen_at rh9
                have hbx := hRP.box uh8
                have hRP9 := hRP.turn t9 (fun k hk e => hbx.1 (by rw [hk, e])) (fun q hq k hk e => hbx.2 q hq (by rw [hk, e]))
                have hB9 : Below n0 w w9 := by
                  rw [← hw9]
                  exact (HR.out.1.trans (hBP.mono (by have := HR.out.2.2.2; omega))).setCell (p := ⟨ub, 0, none⟩) (by show n0 ≤ ub; have := HR.out.2.2.2; omega) _
                have hSP : Sep n0 (.slice pa pn pc) PL := by
                  rcases hFP with ⟨e1, e2⟩ | q
                  · rw [e1, e2]; exact HU.out.2.1.mono (by have := HO.out.1; omega)
                  · exact q.mono (by have := HR.out.2.2.2; omega)
                have HG := Lib.hid (And.intro hRP9 (And.intro hB9 (And.intro (hRP9.box rh9) hSP)))
                have HW9 := Lib.hid hw9
                clear hSP hFP hw9 hRP hBP uh8 rh8 t9 rh9 hbx hRP9 hB9
                go_upto_region 24 with fail
                rw [HW9.out]
                clear y8 y9
                go_wp2
                (try simp only [Exit.inBlock, Exit.then]); refine bodyPost_ret (res_ctt (v := .slice pa pn pc) rfl _ _ rfl (World.cell?_setCell_same' _ _ _ (by rw [r9]; rfl))) rfl ?_
                have e := HMV.out
                have t10 : Turn (fun k => k = n0 + 1) w9 (w9.setCell ⟨n0 + 1, 0, none⟩ (.slice pa pn pc)) := (Turn.refl (fun k => k = n0 + 1) w9).setCell (p := ⟨n0 + 1, 0, none⟩) (fun _ => rfl) _
                have hbx := HG.out.2.2.1
                have hB : Below n0 w (w9.setCell ⟨n0 + 1, 0, none⟩ (.slice pa pn pc)) := HG.out.2.1.setCell (p := ⟨n0 + 1, 0, none⟩) (by show n0 ≤ n0 + 1; omega) _
                exact ⟨_, PL, by rw [e]; rfl, by rw [e]; exact HG.out.1.turn t10 (fun k hk e => hbx.1 (by rw [hk, e])) (fun y hy k hk e => hbx.2 y hy (by rw [hk, e])), by rw [H1.out.2.2.2.2]; exact hB, .inr (by rw [H1.out.2.2.2.2]; exact HG.out.2.2.2)⟩
          · have f1 : (er == 0) = false := beq_eq_false_iff_ne.2 he
            have f2 : (er != 0) = true := by simp [bne, f1]
            have HE := Lib.hid (And.intro he (And.intro hB5 r5))
            clear he hTW hST hBW hsW hrW hord zh hy hyb hzz hws hwc hwd hB5 r5 B5 uh hz5 t5 hw5 hub hRU hBU hSU huc hzU
            go_wp2
            (try simp only [Exit.inBlock, Exit.then]); refine bodyPost_ret (res_ctt (v := .slice a L.length cap) rfl _ _ rfl (World.cell?_setCell_same' _ _ _ (by rw [rc0]; rfl))) rfl ?_
            have e := HFD.out.2.1 HE.out.1
            have hB : Below n0 w (w5.setCell ⟨n0 + 1, 0, none⟩ (.slice a L.length cap)) := HE.out.2.1.setCell (p := ⟨n0 + 1, 0, none⟩) (by show n0 ≤ n0 + 1; omega) _
            have hB' : Below w.heap.size w (w5.setCell ⟨n0 + 1, 0, none⟩ (.slice a L.length cap)) := by rw [H1.out.2.2.2.2]; exact hB
            exact ⟨_, L, by rw [e]; rfl, by rw [e]; exact H.out.1.below hB', hB', .inl ⟨rfl, rfl⟩⟩
      · rcases hbh with ⟨hm, hSB⟩ | ⟨hm, c, C, hC, hcu, hmc, hSB⟩
        · have q3 : decide ((m : Int) ≤ (z : Int)) = true := by have := HW.out.2.2.2.2.2.2.2.2.2.1.1; simp; omega
          have q4 : decide (m ≤ z) = true := by have := HW.out.2.2.2.2.2.2.2.2.2.1.1; simp; omega
          have hsp := rsplit_calls HW.out.1 HW.out.2.1.ap (by have := HW.out.2.2.2.2.2.1; omega) (by have := H.out.2.1.slen.2.1; omega) H.out.2.1.slen.1 (i := j) (n := m) (x := y) (b := b) (ws := ws) HW.out.2.2.2.2.2.2.2.1 HN.out.2.1 HW.out.2.2.2.2.2.2.2.2.1.1 HW.out.2.2.2.2.2.2.2.2.2.2.2.1 HW.out.2.2.2.2.2.2.2.2.2.2.1 (by have := HK.out.2.1.1; omega) hm (by have := HW.out.2.2.2.2.2.2.2.2.2.1; omega)
          have hgs : grow S a0 k0 = (fuse (S.take j ++ ⟨m, true, (ws.take m).drop 1⟩ :: (rest b.size m ++ S.drop (j + 1))), a0, 0) := by
            have hA : Norm (S.take j) := by have h1 := H.out.2.1.norm; rw [split_at HN.out.2.1] at h1; exact (norm_append.1 h1).1
            have h2 := grow_stays (A := S.take j) (x := b) (B := S.drop (j + 1)) (a := a0) (k := k0) (by rw [← split_at HN.out.2.1, List.length_take, Nat.min_eq_left (by have := HN.out.2.2.2; omega)]; exact HN.out.1) hA HK.out.2.2.1 HK.out.2.2.2.1 (SB := rest b.size m ++ S.drop (j + 1)) (.inl ⟨by rw [HK.out.1]; exact hm, by rw [HK.out.1]⟩)
            rw [← split_at HN.out.2.1, HK.out.1] at h2
            rw [h2, drop_take1, HW.out.2.2.2.2.2.2.2.2.2.2.2.2, fuse_used rfl hA, resize_take (by have h3 := (H.out.2.1.good b (List.mem_of_getElem? HN.out.2.1)).full HN.out.2.2.1; omega)]
          have HSP := Lib.hid hsp
          have HGS := Lib.hid hgs
          have hr := HW.out.2.2.2.2.1
          have r0 : W.cell? ⟨n0 + 1, 0, none⟩ = some (.slice none 0 0) := cell_at hr rfl
          clear hsp hgs hm hSB hr
          go_wp2_with fail
          refine HSP.out.mono ?_
          rintro e4 w4 ⟨gv, GL, rfl, hRG, hSG, hVG, hBG⟩
          obtain ⟨ga, gn, gc, rfl, -⟩ := SliceAt.form hRG.ref
          have hh : w4.heap[n0 + 1]? = some (.cells #[.slice none 0 0] 59 (0, 0)) := (hBG.block (n0 + 1) (heap_lt HW.out.2.2.2.2.1)).trans HW.out.2.2.2.2.1
          have r0 : w4.cell? ⟨n0 + 1, 0, none⟩ = some (.slice none 0 0) := cell_at hh rfl
          have r1 : w4.frozen? ⟨n0 + 1, 0, none⟩ = false := frozen_at hh
          have HG := Lib.hid (And.intro hRG (And.intro hBG (And.intro (hRG.box hh) hSG)))
          clear hRG hSG hVG hBG hh
          go_wp2
          (try simp only [Exit.inBlock, Exit.then]); refine bodyPost_ret (res_ctt (v := .slice ga gn gc) rfl _ _ rfl (World.cell?_setCell_same' _ _ _ (by rw [r0]; rfl))) rfl ?_
          have e := HGS.out
          have t5 : Turn (fun k => k = n0 + 1) w4 (w4.setCell ⟨n0 + 1, 0, none⟩ (.slice ga gn gc)) := (Turn.refl (fun k => k = n0 + 1) w4).setCell (p := ⟨n0 + 1, 0, none⟩) (fun _ => rfl) _
          have hbx := HG.out.2.2.1
          have hB : Below n0 w (w4.setCell ⟨n0 + 1, 0, none⟩ (.slice ga gn gc)) := (HW.out.2.2.1.trans (HG.out.2.1.mono (by have := HW.out.2.2.2.2.2.1; omega))).setCell (p := ⟨n0 + 1, 0, none⟩) (by show n0 ≤ n0 + 1; omega) _
          exact ⟨_, GL, by rw [e]; rfl, by rw [e]; exact HG.out.1.turn t5 (fun k hk e => hbx.1 (by rw [hk, e])) (fun y hy k hk e => hbx.2 y hy (by rw [hk, e])), by rw [H1.out.2.2.2.2]; exact hB, .inr (by rw [H1.out.2.2.2.2]; exact HG.out.2.2.2)⟩
        · have hgs : grow S a0 k0 = (fuse (S.take j ++ ⟨m, true, resize b.ws (m - 1)⟩ :: (rest (b.size + c.size) m ++ C)), a0, 0) := by
            have hA : Norm (S.take j) := by have h1 := H.out.2.1.norm; rw [split_at HN.out.2.1] at h1; exact (norm_append.1 h1).1
            have h2 := grow_stays (A := S.take j) (x := b) (B := S.drop (j + 1)) (a := a0) (k := k0) (by rw [← split_at HN.out.2.1, List.length_take, Nat.min_eq_left (by have := HN.out.2.2.2; omega)]; exact HN.out.1) hA HK.out.2.2.1 HK.out.2.2.2.1 (SB := rest (b.size + c.size) m ++ C) (.inr ⟨by rw [HK.out.1]; exact hm, c, C, hC, hcu, by rw [HK.out.1]; exact hmc, by rw [HK.out.1]⟩)
            rw [← split_at HN.out.2.1, HK.out.1] at h2
            rw [h2, fuse_used rfl hA]
          have hcS : S[j + 1]? = some c := by have h1 := congrArg (fun l => l[0]?) hC; simpa [List.getElem?_drop] using h1
          have hCd : C = S.drop (j + 2) := by have h1 := congrArg (fun l => l.drop 1) hC; simpa [List.drop_drop] using h1.symm
          obtain ⟨p, hp⟩ : ∃ p, j + 1 = p := ⟨_, rfl⟩
          have hcS : S[p]? = some c := by rw [← hp]; exact hcS
          obtain ⟨yc, hyc, hycb⟩ := HW.out.1.get' hcS
          obtain ⟨ta', tcap', hte, -, -, htc⟩ := HW.out.1.ref.form
          cases hte
          obtain ⟨tg', toff', hte, c0, c1⟩ := htc p yc hyc
          cases hte
          have hycu := hycb.2.1
          rw [hcu] at hycu
          rw [hycu] at c1
          obtain ⟨zc, hzc⟩ : ∃ zc, yc.n = zc := ⟨_, rfl⟩
          have hzcs : zc = c.size := by rw [← hzc]; exact hycb.1
          rw [hzc] at c0
          have hbs := (H.out.2.1.slen).2.2 c (List.mem_of_getElem? hcS)
          have hjt1 : p < TL.length := (List.getElem?_eq_some_iff.1 hyc).1
          have hzz := HW.out.2.2.2.2.2.2.2.2.2.1
          have q3 : decide ((m : Int) ≤ (z : Int)) = false := decide_eq_false (by omega)
          have q4 : decide (m ≤ z) = false := decide_eq_false (by omega)
          have q5 : decide ((p : Int) < (TL.length : Int)) = true := decide_eq_true (by omega)
          have q6 : decide (p < TL.length) = true := decide_eq_true hjt1
          obtain ⟨w3, w4⟩ := wrap_sum' j 1 (by omega)
          have w5 : IntKind.i64.wrap ((j : Int) + 1) = (p : Int) := by rw [← Int.natCast_one, w3]; omega
          have w6 : wrap64 ((j : Int) + 1) = (p : Int) := by rw [← Int.natCast_one, w4]; omega
          obtain ⟨w7, w8⟩ := wrap_sum' z zc (by omega)
          have hmz : m ≤ z + zc := by rw [hzz.1, hzcs]; exact hmc
          have q7 : decide ((m : Int) ≤ (z : Int) + (zc : Int)) = true := decide_eq_true (by rw [← Int.natCast_add]; exact Int.ofNat_le.2 hmz)
          have q8 : decide (m ≤ z + zc) = true := decide_eq_true hmz
          have HC := Lib.hid (And.intro hgs (And.intro hcS (And.intro hCd (And.intro hyc (And.intro hycb (And.intro hzcs (And.intro hbs (And.intro hm (And.intro hmc hp)))))))))
          clear hgs hcS hCd hyc hycb hzcs hbs hm hmc hSB hC hcu htc hycu hzz hzc w3 w4 hmz hp
          go_upto_region 12 with fail
          have HWW := Lib.hid (And.intro w5 (And.intro w6 (And.intro w7 w8)))
          clear w5 w6 w7 w8
          obtain ⟨hTW, hST, hBW, hsW, hrW, hord, zh, hy, hyb, hzz, hws, hwc, hwd⟩ := HW.out
          obtain ⟨hgs, hcS, hCd, hyc, hycb, hzcs, hbs, hm, hmc, hp⟩ := HC.out
          have hyz : y.n = z := by rw [hyb.1, hzz.1]
          have hb2 := (H.out.2.1.good b (List.mem_of_getElem? HN.out.2.1)).two
          have hc2 := (H.out.2.1.good c (List.mem_of_getElem? hcS)).two
          obtain ⟨v17, W1, hr17, s17, t17, o17⟩ := run_append_make W.drew y.val ws (SliceAt.drew hwc) (by omega) zc (by omega) (by omega) 24
          obtain ⟨va, vn, vc, rfl, hvl, hvc, -, hvn⟩ := SliceAt.form s17
          have hvn2 : vn = z + zc := by simp [zeros] at hvl; omega
          have t17' : Turn (fun k => y.val.ownBlock = some k) W W1 := ((Turn.refl (fun k => y.val.ownBlock = some k) W).drew).trans t17
          have hyt : y.val.ownBlock ≠ some tg := fun e => hST.nv y (List.mem_of_getElem? hy) tg e rfl
          have hytb : y.val.ownBlock ≠ some tb := fun e => (hTW.box zh).2 y (List.mem_of_getElem? hy) e
          have z1 : W1.cell? ⟨tb, 0, none⟩ = some (.slice (some ⟨tg, toff, none⟩) TL.length tcap) := (t17'.cell (p := ⟨tb, 0, none⟩) hytb (by show tb < _; omega)).trans z0
          have y1 : W1.cell? ⟨tg, toff + j * 2, none⟩ = some (.slice y.a z y.cap) := (t17'.cell (p := ⟨tg, toff + j * 2, none⟩) hyt (by show tg < _; omega)).trans y0
          have yf : W1.frozen? ⟨tg, toff + j * 2, none⟩ = false := (t17'.frozen (p := ⟨tg, toff + j * 2, none⟩) hyt (by show tg < _; omega)).trans (SliceAt.frozen hTW.ref _)
          obtain ⟨ny, hny⟩ : ∃ ny : RN, ny = ⟨va, vn, vc, y.u⟩ := ⟨_, rfl⟩
          obtain ⟨W2, hW2⟩ : ∃ W2, W1.setCell ⟨tg, toff + j * 2, none⟩ (.slice va vn vc) = W2 := ⟨_, rfl⟩
          have t2 : Turn (fun k => k = tg) W1 W2 := by rw [← hW2]; exact (Turn.refl (fun k => k = tg) W1).setCell (p := ⟨tg, toff + j * 2, none⟩) (fun _ => rfl) _
          have hT1 : SliceAt W1 108 2 (.slice (some ⟨tg, toff, none⟩) TL.length tcap) (rcells TL) := SliceAt.turn hTW.ref t17' fun k hk e => by
            have : k = tg := by simp [Value.ownBlock] at hk; omega
            subst this; exact hyt e
          have hs2 : SliceAt W2 108 2 (.slice (some ⟨tg, toff, none⟩) TL.length tcap) (rcells (TL.set j ny)) := by
            have h1 := SliceAt.set hT1 (j * 2) ny.val (by rw [rcells_length]; omega)
            rw [rcells_set1 hy (by rw [hny])] at h1
            rw [← hW2]
            rw [hny] at h1 ⊢
            exact h1
          have hnown : ∀ k, ny.val.ownBlock = some k → y.val.ownBlock = some k ∨ k = W.heap.size := fun k hk => by
            rw [hny] at hk
            rcases o17 with q | q
            · exact .inl (q ▸ hk)
            · refine .inr ?_
              have h1 : (Value.slice va vn vc).ownBlock = some k := hk
              rw [q] at h1
              cases h1; rfl
          have hwl0 : 0 < ws.length := by omega
          have hnbk : RBk W2 ny ⟨b.size + c.size, true, b.ws ++ zeros zc⟩ := by
            refine ⟨by rw [hny]; show vn = b.size + c.size; omega, by rw [hny]; show y.u = true; rw [hyb.2.1]; exact HN.out.2.2.1, ws ++ zeros zc, by simp [zeros]; omega, ?_, fun _ => ?_⟩
            · refine SliceAt.turn (w := W1) (by rw [hny]; exact s17) t2 fun k hk e => ?_
              rcases hnown k hk with q | q
              · rw [e] at q; exact hyt q
              · omega
            · show (ws ++ zeros zc).drop 1 = b.ws ++ zeros zc
              rw [List.drop_append_of_le_length (by omega), hwd]
          obtain ⟨S2, hS2⟩ : ∃ S2, S.set j ⟨b.size + c.size, true, b.ws ++ zeros zc⟩ = S2 := ⟨_, rfl⟩
          have hRC2 : RC W2 (.slice (some ⟨tg, toff, none⟩) TL.length tcap) (TL.set j ny) S2 := by
            rw [← hS2]
            refine hTW.poke2 (T := fun k => y.val.ownBlock = some k ∨ k = tg) hs2 ((t17'.mono fun k _ e => .inl e).trans (t2.mono fun k _ e => .inr e)) (fun q x hq hx k hk e => ?_) hnbk
            rcases e with e | e
            · exact hST.ap.other hy hq hx e hk
            · exact hST.nv x (List.mem_of_getElem? hx) k hk (by rw [e]; rfl)
          have hAp2 : Ap n0 (TL.set j ny) := hST.ap.set' fun k hk => by
            rcases hnown k hk with q | q
            · exact ⟨hST.lo y (List.mem_of_getElem? hy) k q, fun q' x hq hx => hST.ap.other hy hq hx q⟩
            · exact ⟨by omega, fun q' x hq hx e => by have := hTW.blt x (List.mem_of_getElem? hx) k e; omega⟩
          have hyown : ∀ k, y.val.ownBlock = some k → n0 ≤ k := hST.lo y (List.mem_of_getElem? hy)
          have hyrb : y.val.ownBlock ≠ some (n0 + 1) := fun e => (hTW.box hrW).2 y (List.mem_of_getElem? hy) e
          have hzW2 : W.heap.size ≤ W2.heap.size := Nat.le_trans t17'.size t2.size
          have hB2 : Below n0 w W2 := hBW.trans ⟨by rw [t2.os, t17'.os], by rw [t2.tape, t17'.tape], by rw [t2.output, t17'.output], by omega, fun k hk => by rw [t2.block k (by have := t17'.size; omega) (by omega), t17'.block k (by omega) (fun e => by have := hyown k e; omega)]⟩
          have hr2 : W2.heap[n0 + 1]? = some (.cells #[.slice none 0 0] 59 (0, 0)) := by
            rw [t2.block (n0 + 1) (by have := t17'.size; omega) (by omega), t17'.block (n0 + 1) (by omega) hyrb]; exact hrW
          have hz2 : W2.heap[tb]? = some (.cells #[.slice (some ⟨tg, toff, none⟩) TL.length tcap] 59 (0, 0)) := by
            rw [t2.block tb (by have := t17'.size; omega) (by omega), t17'.block tb (by omega) hytb]; exact zh
          have hjny : (TL.set j ny)[j]? = some ny := by rw [List.getElem?_set, if_pos rfl, if_pos hjt]
          have HR := Lib.hid hr17
          rw [show y.val = .slice y.a z y.cap by rw [← hyz]; rfl] at HR
          have HG := Lib.hid (And.intro hRC2 (And.intro hAp2 (And.intro hB2 (And.intro hr2 (And.intro hz2 (And.intro hnbk (And.intro hjny (And.intro hS2 (And.intro hzW2 (And.intro (show ny.n = b.size + c.size from hnbk.1) hwl0))))))))))
          have HW2 := Lib.hid hW2
          clear hW2 hr17 hTW hST hBW hsW hrW hord zh hy hyb hzz hws hwc hwd hgs hcS hCd hyc hycb hzcs hbs hm hmc hp s17 t17 o17 t17' hyt hytb t2 hT1 hs2 hnown hnbk hRC2 hAp2 hyown hyrb hzW2 hB2 hr2 hz2 hjny hS2 hny hvl hvc hvn hvn2 hyz hwl0 hb2 hc2
          obtain ⟨w5, w6, -, -⟩ := HWW.out
          refine wp_region_planG (aF := ?aF12) [17, 20] [[], [17], [17, 20]] 2 [(0, 0, 0), (0, 1, 1), (1, 0, 0), (1, 1, 1), (2, 0, 0), (2, 1, 1), (3, 0, 0), (3, 1, 1), (4, 0, 0), (4, 1, 1), (5, 0, 0), (5, 1, 1), (6, 0, 0), (7, 0, 0), (8, 0, 0), (9, 0, 0), (9, 1, 1), (10, 0, 0), (10, 1, 1), (11, 0, 0), (11, 1, 1), (12, 0, 0), (12, 1, 1), (13, 0, 0), (13, 1, 1), (14, 0, 0), (15, 0, 0), (16, 0, 0), (17, 0, 1), (18, 1, 1), (19, 1, 1), (20, 1, 2)]
            [W.drew, W1, W1.setCell ⟨tg, toff + j * 2, none⟩ (.slice va vn vc)]
            [.pointer (some ⟨tb, 0, none⟩), .slice (some ⟨tg, toff, none⟩) TL.length tcap, .int .i64 j, .pointer (some ⟨tb, 0, none⟩), .slice (some ⟨tg, toff, none⟩) TL.length tcap, .int .i64 j, .pointer (some ⟨tg, toff + j * 2, none⟩), .pointer (some ⟨tg, toff + j * 2, none⟩), .slice y.a z y.cap, .pointer (some ⟨tb, 0, none⟩), .slice (some ⟨tg, toff, none⟩) TL.length tcap, .int .i64 j, .int .i64 p, .pointer (some ⟨tg, toff + p * 2, none⟩), .pointer (some ⟨tg, toff + p * 2, none⟩), .slice yc.a zc yc.cap, .int .i64 zc, .slice va vn vc, .pointer (some ⟨tg, toff + j * 2, none⟩), .pointer (some ⟨tg, toff + j * 2, none⟩), undef]
            (by kernel_rfl) (by kernel_rfl) ?hF12 rfl rfl rfl ?hob12 ?hend12
          case hF12 => simp only [putAll, Act.put]; go_simp; rfl
          case hob12 =>
            repeat' (first
              | exact oblsG_nil
              | (refine oblsG_cons rfl rfl rfl ?_ ?_)
              | exact Runs.value rfl rfl rfl
              | exact Runs.append rfl _ _ _ _ rfl _ _ _ rfl rfl HR.out rfl
              | (apply Runs.skip rfl rfl; (focus (go_simp; try exact rfl)); exact rfl)
              | (apply Runs.value rfl; (focus (go_simp; try exact rfl)); exact rfl))
          case hend12 =>
            rw [HW2.out]
            clear HW2 HR z1 y1 yf z0 y0 c0 c1 q3 q4 q7 q8
            go_upto_region 13 with fail
            obtain ⟨hRC2, hAp2, hB2, hr2, hz2, hnbk, hjny, hS2, hzW2, hnyn, hwl0⟩ := HG.out
            have hord := HW.out.2.2.2.2.2.1
            have hp := HC.out.2.2.2.2.2.2.2.2.2
            have HW56 := Lib.hid (And.intro w5 w6)
            clear w5 w6
            have hlt2 : (TL.set j ny).length = TL.length := List.length_set
            have ht16 : TL.length ≤ 16000 := by rw [HW.out.1.len]; exact H.out.2.1.slen.1
            have s4 : SliceAt W2.drew 108 2 (.slice (some ⟨tg, toff, none⟩) p tcap) (rcells ((TL.set j ny).take p)) := by
              have h1 := SliceAt.take (SliceAt.drew hRC2.ref) p (by omega)
              rwa [rcells_take] at h1
            have hlit : ∀ (l : List RN), ∀ u ∈ rcells l, u.oneCell' = true := fun l u hu => by
              simp only [rcells, List.mem_flatMap, rcell] at hu
              obtain ⟨x, -, hu⟩ := hu
              simp at hu
              rcases hu with rfl | rfl <;> rfl
            obtain ⟨v5, W3, hr5, s5, t5, o5, -⟩ := run_append (P := Try.prog) W2.drew 57 57 57 108 2 32 (.agg #[.slice none 0 0, .bool false]) Try.underlying57 (.inr ⟨_, Try.underlying57⟩) elemR (.slice none 0 0) (rcells []) (SliceAt.nil _ _ _) (.slice (some ⟨tg, toff, none⟩) p tcap) p (rcells ((TL.set j ny).take p))
              (Src.of_slice s4) (hlit _) (by simp only [rcells_length, List.length_take, List.length_nil]; omega) (by simp only [rcells_length, List.length_take, List.length_nil]; omega)
            have t5' : Turn (fun _ => False) W2 W3 := ((Turn.refl (fun _ => False) W2).drew).trans (t5.mono fun k _ e => by simp [Value.ownBlock] at e)
            have hv5 : ∀ k, v5.ownBlock = some k → k = W2.heap.size := fun k hk => by
              rcases o5 with q | q
              · rw [q] at hk; simp [Value.ownBlock] at hk
              · rw [q] at hk; cases hk; rfl
            have hRC3 : RC W3 v5 ((TL.set j ny).take p) (S2.take p) := by
              have h1 := (RC.nil W2.drew).app (L2 := (TL.set j ny).take p) (S2 := S2.take p) t5 s5 (fun x hx => by simp at hx) (by rw [List.length_take, List.length_take, hRC2.len]) (fun q x d h1 h2 => by
                rw [List.getElem?_take] at h1 h2
                split at h1
                · rename_i hq
                  rw [if_pos hq] at h2
                  have hk := hRC2.blk q x d h1 h2
                  exact hk.keep fun k e => t5'.block k (hk.lt k e) id
                · cases h1)
              simpa using h1
            obtain ⟨p2, hp2⟩ : ∃ p2, j + 2 = p2 := ⟨_, rfl⟩
            obtain ⟨ya, hya⟩ : ∃ ya, (if tcap = p2 then some (⟨tg, toff, none⟩ : Addr) else some ⟨tg, toff + p2 * 2, none⟩) = ya := ⟨_, rfl⟩
            have hTc : TL.length ≤ tcap := by
              obtain ⟨a', c', e, h1, -⟩ := HW.out.1.ref.form
              cases e; exact h1
            have s10 : SliceAt W3 108 2 (.slice ya (TL.length - p2) (tcap - p2)) (rcells ((TL.set j ny).drop p2)) := by
              have h0 := SliceAt.turn hRC2.ref t5' fun _ _ => id
              by_cases hcap : tcap = p2
              · have h1 := SliceAt.empty h0
                rw [← hya, if_pos hcap, show TL.length - p2 = 0 by omega, show tcap - p2 = 0 by omega, List.drop_of_length_le (by omega)]
                exact h1
              · have h1 := SliceAt.drop h0 p2 (by omega)
                rw [rcells_drop] at h1
                rw [← hya, if_neg hcap]
                exact h1
            obtain ⟨ym, hym⟩ : ∃ ym, TL.length - p2 = ym := ⟨_, rfl⟩
            obtain ⟨yq, hyq⟩ : ∃ yq, tcap - p2 = yq := ⟨_, rfl⟩
            rw [hym, hyq] at s10
            obtain ⟨v11, W4, hr11, s11, t11, o11, -⟩ := run_append (P := Try.prog) W3 57 57 57 108 2 32 (.agg #[.slice none 0 0, .bool false]) Try.underlying57 (.inr ⟨_, Try.underlying57⟩) elemR v5 _ hRC3.ref (.slice ya ym yq) ym (rcells ((TL.set j ny).drop p2))
              (Src.of_slice s10) (hlit _) (by simp only [rcells_length, List.length_take, List.length_drop]; omega) (by simp only [rcells_length, List.length_take, List.length_drop]; omega)
            have hRC4 : RC W4 v11 ((TL.set j ny).take p ++ (TL.set j ny).drop p2) (S2.take p ++ S2.drop p2) := hRC3.app t11 s11 (fun x hx k hk e => by
                have h1 := hRC2.blt x (List.mem_of_mem_take hx) k hk
                have h2 := hv5 k e
                omega) (by rw [List.length_drop, List.length_drop, hRC2.len]) (fun q x d h1 h2 => by
                rw [List.getElem?_drop] at h1 h2
                have hk := hRC2.blk _ x d h1 h2
                refine hk.keep fun k e => ?_
                have h3 := hk.lt k e
                rw [t11.block k (by have := t5'.size; omega) (fun e => by have := hv5 k e; omega), t5'.block k h3 id])
            have hAp4 : Ap n0 ((TL.set j ny).take p ++ (TL.set j ny).drop p2) := by
              refine hAp2.sub ?_
              have h1 : ((TL.set j ny).take p ++ (TL.set j ny).drop p2).Sublist ((TL.set j ny).take p ++ (TL.set j ny).drop p) := (List.Sublist.refl _).append (by rw [show p2 = p + 1 by omega, ← List.drop_drop]; exact List.drop_sublist 1 _)
              rwa [List.take_append_drop] at h1
            obtain ⟨xa, xn, xc, rfl, -⟩ := SliceAt.form s11
            have hsz3 := t5'.size
            have hsz4 := t11.size
            have hz4 : W4.heap[tb]? = some (.cells #[.slice (some ⟨tg, toff, none⟩) TL.length tcap] 59 (0, 0)) := by
              rw [t11.block tb (by omega) (fun e => by have := hv5 _ e; omega), t5'.block tb (by omega) id]; exact hz2
            have hr4 : W4.heap[n0 + 1]? = some (.cells #[.slice none 0 0] 59 (0, 0)) := by
              rw [t11.block (n0 + 1) (by omega) (fun e => by have := hv5 _ e; omega), t5'.block (n0 + 1) (by omega) id]; exact hr2
            have hB4 : Below n0 w W4 := hB2.trans ⟨by rw [t11.os, t5'.os], by rw [t11.tape, t5'.tape], by rw [t11.output, t5'.output], by omega, fun k hk => by rw [t11.block k (by omega) (fun e => by have := hv5 k e; omega), t5'.block k (by omega) id]⟩
            obtain ⟨W5, hW5⟩ : ∃ W5, W4.setCell ⟨tb, 0, none⟩ (.slice xa xn xc) = W5 := ⟨_, rfl⟩
            have t6 : Turn (fun k => k = tb) W4 W5 := by rw [← hW5]; exact (Turn.refl (fun k => k = tb) W4).setCell (p := ⟨tb, 0, none⟩) (fun _ => rfl) _
            have hbx := hRC4.box hz4
            have hRC5 : RC W5 (.slice xa xn xc) ((TL.set j ny).take p ++ (TL.set j ny).drop p2) (S2.take p ++ S2.drop p2) := hRC4.turn t6 (fun k hk e => hbx.1 (by rw [hk, e])) (fun q hq k hk e => hbx.2 q hq (by rw [hk, e]))
            have hB5 : Below n0 w W5 := by rw [← hW5]; exact hB4.setCell (p := ⟨tb, 0, none⟩) (by show n0 ≤ tb; omega) _
            have hr5' : W5.heap[n0 + 1]? = some (.cells #[.slice none 0 0] 59 (0, 0)) := by rw [t6.block (n0 + 1) (by omega) (by omega)]; exact hr4
            have c5 : W5.cell? ⟨tb, 0, none⟩ = some (.slice xa xn xc) := by rw [← hW5]; exact World.cell?_setCell_same' _ _ _ (by rw [cell_at hz4 rfl]; rfl)
            have hjS := HN.out.2.2.2
            have hlist : S2.take p ++ S2.drop p2 = S.take j ++ ⟨b.size + c.size, true, b.ws ++ zeros zc⟩ :: S.drop (j + 2) := by rw [← hS2, ← hp, ← hp2]; exact join_list HN.out.2.1
            rw [hlist] at hRC5
            obtain ⟨al1, al2, al3⟩ := at_list (S := S) (C := S.drop (j + 2)) (B' := ⟨b.size + c.size, true, b.ws ++ zeros zc⟩) hjS
            have hx5 : ((TL.set j ny).take p ++ (TL.set j ny).drop p2)[j]? = some ny := by
              rw [List.getElem?_append_left (by rw [List.length_take]; omega), List.getElem?_take, if_pos (by omega)]; exact hjny
            obtain ⟨-, -, ws5, hw51, hw52, hw53⟩ := hRC5.blk j ny _ hx5 al3
            obtain ⟨js1, js2⟩ := join_sz (B' := ⟨b.size + c.size, true, b.ws ++ zeros zc⟩) HN.out.2.1 (by have := HC.out.2.1; rw [← hp] at this; exact this) rfl
            have hok := H.out.2.1.slen
            have hsp := rsplit_calls hRC5 hAp4 (by have := hB5.size; omega) (by rw [js1]; omega) (by omega) (i := j) (n := m) (x := ny) (ws := ws5) hx5 al3 hnyn hw52 hw51 (by have := HK.out.2.1.1; omega) HC.out.2.2.2.2.2.2.2.2.1 (by have h1 := HW.out.2.2.2.2.2.2.2.2.2.1; have h2 := HC.out.2.2.2.2.2.2.1; show b.size + c.size ≤ 100000; omega)
            rw [al1, al2, drop_take1, hw53 rfl, resize_more _ _ _ (by have h1 := (H.out.2.1.good b (List.mem_of_getElem? HN.out.2.1)).full HN.out.2.2.1; have h2 := HC.out.2.2.2.2.2.2.2.2.1; have h3 := HC.out.2.2.2.2.2.1; omega)] at hsp
            have HSP := Lib.hid hsp
            have HRR := Lib.hid (And.intro hr5 (And.intro hr11 (And.intro hya (And.intro hym (And.intro hyq (show 0 ≤ (j : Int) + 2 ∧ (j : Int) + 2 ≤ (TL.length : Int) by omega))))))
            have H5 := Lib.hid (And.intro hB5 (And.intro hr5' hp2))
            have f4 : W4.cell? ⟨tb, 0, none⟩ = some (.slice (some ⟨tg, toff, none⟩) TL.length tcap) := cell_at hz4 rfl
            have f4' : W4.frozen? ⟨tb, 0, none⟩ = false := frozen_at hz4
            have f2 : W2.cell? ⟨tb, 0, none⟩ = some (.slice (some ⟨tg, toff, none⟩) TL.length tcap) := cell_at hz2 rfl
            have f3 : W3.cell? ⟨tb, 0, none⟩ = some (.slice (some ⟨tg, toff, none⟩) TL.length tcap) := (t5'.cell (p := ⟨tb, 0, none⟩) id (by show tb < _; omega)).trans f2
            have g1 : decide ((p : Int) ≤ (TL.length : Int)) = true := decide_eq_true (by omega)
            have g2 : p ≤ TL.length := by omega
            have g3 : p ≤ tcap := by omega
            have HW5 := Lib.hid hW5
            have HJ2 := Lib.hid (show ((j : Int) + 2).toNat = p2 by omega)
            clear hW5 hok js1 js2 hw51 hw52 hw53 hx5 al1 al2 al3 hlist hjS hr5' hB5 hRC5 hbx t6 hB4 hr4 hz4 hsz3 hsz4 hAp4 hRC4 s11 t11 o11 hr11 hyq hym s10 hTc hya hp2 hRC3 hv5 t5' s5 t5 o5 hr5 hlit s4 hlt2 hRC2 hAp2 hB2 hr2 hz2 hnbk hjny hS2 hzW2 hnyn hwl0 hord hp hsp HG
            obtain ⟨w5, w6⟩ := HW56.out
            obtain ⟨w9, w10⟩ : IntKind.i64.wrap ((j : Int) + 2) = (j : Int) + 2 ∧ wrap64 ((j : Int) + 2) = (j : Int) + 2 := wrap_sum' j 2 (by omega)
            refine wp_region_planG (aF := ?aF13) [5, 11, 13] [[], [5], [5, 11], [5, 11, 13]] 3 [(0, 0, 0), (1, 0, 0), (2, 0, 0), (3, 0, 0), (4, 0, 0), (5, 0, 1), (6, 0, 0), (6, 1, 1), (7, 0, 0), (7, 1, 1), (8, 0, 0), (8, 1, 1), (9, 0, 0), (9, 1, 1), (10, 0, 0), (10, 1, 1), (11, 1, 2), (12, 2, 2), (13, 2, 3)]
              [W2.drew, W3, W4, W4.setCell ⟨tb, 0, none⟩ (.slice xa xn xc)]
              [.pointer (some ⟨tb, 0, none⟩), .slice (some ⟨tg, toff, none⟩) TL.length tcap, .int .i64 j, .int .i64 p, .slice (some ⟨tg, toff, none⟩) p tcap, v5, .pointer (some ⟨tb, 0, none⟩), .slice (some ⟨tg, toff, none⟩) TL.length tcap, .int .i64 j, .int .i64 ((j : Int) + 2), .slice ya ym yq, .slice xa xn xc, .pointer (some ⟨tb, 0, none⟩), undef]
              (by kernel_rfl) (by kernel_rfl) ?hF13 rfl rfl rfl ?hob13 ?hend13
            case hF13 => simp only [putAll, Act.put]; go_simp; rfl
            case hob13 =>
              repeat' (first
                | exact oblsG_nil
                | (refine oblsG_cons rfl rfl rfl ?_ ?_)
                | exact Runs.value rfl rfl rfl
                | exact Runs.append rfl _ _ _ _ rfl _ _ _ rfl rfl HRR.out.1 rfl
                | exact Runs.append rfl _ _ _ _ rfl _ _ _ rfl rfl HRR.out.2.1 rfl
                | (apply Runs.skip rfl rfl; (focus (go_simp; try exact rfl)); exact rfl)
                | (apply Runs.value rfl; (focus (go_simp; try exact rfl)); exact rfl)
                | (apply Runs.value rfl; (focus (go_simp; rw [if_pos HRR.out.2.2.2.2.2, HJ2.out, HRR.out.2.2.1, HRR.out.2.2.2.1, HRR.out.2.2.2.2.1]; try exact rfl)); exact rfl))
            case hend13 =>
              rw [HW5.out]
              clear HW5 HRR f4 f4' f2 f3 g1 g2 g3 w5 w6 w9 w10 q5 q6
              go_wp2_with fail
              refine HSP.out.mono ?_
              rintro e6 w6 ⟨gv, GL, rfl, hRG, hSG, hVG, hBG⟩
              obtain ⟨ga, gn, gc, rfl, -⟩ := SliceAt.form hRG.ref
              have hh : w6.heap[n0 + 1]? = some (.cells #[.slice none 0 0] 59 (0, 0)) := (hBG.block (n0 + 1) (heap_lt H5.out.2.1)).trans H5.out.2.1
              have r0 : w6.cell? ⟨n0 + 1, 0, none⟩ = some (.slice none 0 0) := cell_at hh rfl
              have r1 : w6.frozen? ⟨n0 + 1, 0, none⟩ = false := frozen_at hh
              have HG := Lib.hid (And.intro hRG (And.intro hBG (And.intro (hRG.box hh) hSG)))
              clear hRG hSG hVG hBG hh
              go_wp2
              (try simp only [Exit.inBlock, Exit.then]); refine bodyPost_ret (res_ctt (v := .slice ga gn gc) rfl _ _ rfl (World.cell?_setCell_same' _ _ _ (by rw [r0]; rfl))) rfl ?_
              have e := HC.out.1
              rw [HC.out.2.2.1] at e
              have t5 : Turn (fun k => k = n0 + 1) w6 (w6.setCell ⟨n0 + 1, 0, none⟩ (.slice ga gn gc)) := (Turn.refl (fun k => k = n0 + 1) w6).setCell (p := ⟨n0 + 1, 0, none⟩) (fun _ => rfl) _
              have hbx := HG.out.2.2.1
              have hB : Below n0 w (w6.setCell ⟨n0 + 1, 0, none⟩ (.slice ga gn gc)) := (H5.out.1.trans (HG.out.2.1.mono (by have := H5.out.1.size; have := H1.out.2.2.2.2; omega))).setCell (p := ⟨n0 + 1, 0, none⟩) (by show n0 ≤ n0 + 1; omega) _
              exact ⟨_, GL, by rw [e]; rfl, by rw [e]; exact HG.out.1.turn t5 (fun k hk e => hbx.1 (by rw [hk, e])) (fun y hy k hk e => hbx.2 y hy (by rw [hk, e])), by rw [H1.out.2.2.2.2]; exact hB, .inr (by rw [H1.out.2.2.2.2]; exact HG.out.2.2.2)⟩
end Go.Sto
