/-
  The reference's Read, walked.
-/
import Derived.Deep.LoopGhost
import Derived.Deep.CutRange
import Derived.Test.YtjdafmpkobelcaaDoorQRefOut2
set_option linter.unusedVariables false

namespace Go.Con
open Go.Own Go.RowKit Go.Proofs

theorem lcells_split (l : List Ln) (i : Nat) (h : i ≤ l.length) : (lcells l).take (i * 2) = lcells (l.take i) ∧ (lcells l).drop (i * 2) = lcells (l.drop i) := by
  have e : lcells l = lcells (l.take i) ++ lcells (l.drop i) := by rw [← lcells_append, List.take_append_drop]
  have hl : (lcells (l.take i)).length = i * 2 := by rw [lcells_length, List.length_take, Nat.min_eq_left h]
  rw [e]
  exact ⟨by rw [← hl, List.take_left'  rfl], by rw [← hl, List.drop_left' rfl]⟩

theorem textsOf_out {k : Int} {l : List Ln} {i : Nat} (h : i < l.length) (hk : l[i].1 = k) (hn : ∀ j (hj : j < i), (l[j]'(by omega)).1 ≠ k) :
    textsOf k l = l[i].2 :: textsOf k (l.drop (i + 1)) ∧ ∀ j : Int, upd (fun q => textsOf q l) k (textsOf k (l.drop (i + 1))) j = textsOf j (l.take i ++ l.drop (i + 1)) := by
  have e0 : l = l.take i ++ l.drop i := (List.take_append_drop i l).symm
  have e1 : l.drop i = l[i] :: l.drop (i + 1) := List.drop_eq_getElem_cons h
  have e2 : textsOf k (l.take i) = [] := textsOf_none fun x hx => by
    obtain ⟨j, hj, rfl⟩ := List.mem_iff_getElem.1 hx
    have hj' : j < i := by simp at hj; omega
    rw [List.getElem_take]
    exact hn j hj'
  have e3 : ∀ q, textsOf q l = textsOf q (l.take i) ++ textsOf q (l[i] :: l.drop (i + 1)) := fun q => by
    rw [← textsOf_append, ← e1, ← e0]
  refine ⟨by rw [e3 k, e2, textsOf_cons_eq hk]; rfl, fun j => ?_⟩
  rw [textsOf_append]
  by_cases hj : j = k
  · subst hj
    rw [upd_self, e2]; rfl
  · rw [upd_ne _ _ hj, e3 j, textsOf_cons_ne (by rw [hk]; exact fun e => hj e.symm)]

section
variable {r : RG} {S : CS} {w w' : World}

/-- What Read gives and leaves. -/
def CS.read (S : CS) (k : Int) : CS × Bytes × Bool :=
  match S.lines k with
  | [] => (S, [], false)
  | s :: rest => ({ S with lines := upd S.lines k rest }, s, true)

def RReadPost (r : RG) (S : CS) (w : World) (k : Int) (e : Ending) (w' : World) : Prop :=
  e = .returned (.tuple #[.string ⟨(S.read k).2.1.toArray⟩, .bool (S.read k).2.2]) ∧ ∃ r', RRep r' (S.read k).1 w' ∧ Step r.g r'.g w w' ∧ r'.bg = true ∧ r'.wt.length ≤ r.wt.length

theorem read_of_nil {k : Int} (h : S.lines k = []) : S.read k = (S, [], false) := by unfold CS.read; rw [h]
theorem read_of_cons {k : Int} {s : Bytes} {rest : List Bytes} (h : S.lines k = s :: rest) : S.read k = ({ S with lines := upd S.lines k rest }, s, true) := by unfold CS.read; rw [h]

set_option maxRecDepth 10000 in
set_option maxHeartbeats 2000000 in
theorem rread_calls (k : Int) {c : Nat} (hc : r.g.c = c) (h : RRep r S w) (hwt : r.wt.length ≤ 1000000000) :
    Calls Tryd.prog 31 #[.pointer (some ⟨c, 0, none⟩), .int .i64 k] w (RReadPost r S w k) := by
  subst hc
  have HC := Lib.hid (rstart_calls rfl h)
  clear h
  go_enter Tryd.func31, Tryd.ntmps31
  go_wp2_with fail
  refine HC.out.mono ?_
  rintro e1 w1 ⟨rfl, R1, s1⟩
  obtain ⟨-, -, -, c3, -, -, -, -⟩ := rblock R1.blk
  obtain ⟨va, vn, vc, hv, hvl, hvc, -⟩ := R1.waiting.1.form
  rw [lcells_length] at hvl
  have hvl2 : r.wt.length * 2 = vn * 2 := hvl
  clear hvl
  have hvl : r.wt.length = vn := by omega
  have c3' : w1.cell? ⟨r.g.c, 3, none⟩ = some (.slice va vn vc) := by rw [← hv]; exact c3
  have hz := R1.blk
  have fz : w1.frozen? ⟨r.g.c, 3, none⟩ = false := frozen_at hz
  have hn9 : vn ≤ 1000000000 := by omega
  have H1 := Lib.hid (And.intro R1 (And.intro s1 (And.intro hv hvl)))
  clear R1 s1 hv hvl c3 hz HC
  go_wp2_with fail
  go_loopg [6] (vn) (fun gk iv wr => ∃ i : Nat, gk + i = vn ∧ iv = .int .i64 i ∧ wr = w1 ∧ ∀ j (hj : j < i), ∀ (hj2 : j < r.wt.length), (r.wt[j]'hj2).1 ≠ k)
  case atStart => exact ⟨0, rfl, rfl, rfl, fun j hj => absurd hj (by omega)⟩
  case round =>
    obtain ⟨i, hi, rfl, hwr, hno⟩ := hrel
    rw [hwr]
    have HN := Lib.hid hno
    clear hno hwr
    by_cases hlt : i < vn
    · have hiw : i < r.wt.length := by rw [H1.out.2.2.2]; exact hlt
      have hg := lcells_get r.wt i hiw
      have hs := H1.out.1.waiting.1
      have hs' : SliceAt w1 68 2 (.slice va vn vc) (lcells r.wt) := by rw [← H1.out.2.2.1]; exact hs
      obtain ⟨g, off, rfl⟩ := hs'.addr (by omega)
      have d0 := hs'.cells (i * 2) _ hg.1
      have d1 := hs'.cells (i * 2 + 1) _ hg.2
      obtain ⟨t, ht⟩ : ∃ t, r.wt[i].1 = t := ⟨_, rfl⟩
      obtain ⟨s, hs2⟩ : ∃ s, r.wt[i].2 = s := ⟨_, rfl⟩
      rw [ht] at d0
      rw [hs2] at d1
      unfold str at d1
      have hi0 : (0 : Int) ≤ (i : Int) := by omega
      have hi1 : (i : Int) < (vn : Int) := by omega
      have d1' : w1.cell? ⟨g, off + i * 2 + 1, none⟩ = some (.string ⟨s.toArray⟩) := by rw [Nat.add_assoc]; exact d1
      have HS := Lib.hid (And.intro hs' (And.intro ht hs2))
      clear hg hs hs' ht hs2 d1
      by_cases hk : t = k
      · subst hk
        have hic : (i : Int) ≤ (vc : Int) := by omega
        have hin2 : (i : Int) + 1 ≤ (vn : Int) := by omega
        obtain ⟨p, hp⟩ : ∃ p, i + 1 = p := ⟨_, rfl⟩
        have hwp : IntKind.i64.wrap ((i : Int) + 1) = (p : Int) := by rw [IntWalk.i64_in _ (by omega)]; omega
        have hp0 : (0 : Int) ≤ (p : Int) := by omega
        have hpn : (p : Int) ≤ (vn : Int) := by omega
        have hA : SliceAt (w1.alloc (.cells #[] 68)) 68 2 (.slice (some ⟨g, off, none⟩) vn vc) (lcells r.wt) := HS.out.1.turn ((Turn.refl (fun _ => False) w1).alloc _) (fun _ _ h => h)
        have hT := Src.of_slice (hA.take i (by omega))
        rw [(lcells_split r.wt i (by omega)).1] at hT
        have sm := SliceAt.made (w := w1.alloc (.cells #[] 68)) (sz := 2) (n := 0) (heap_alloc_new w1 _) rfl (by unfold maxLen; omega)
        have HA := Lib.hid (And.intro hA (And.intro hT sm))
        obtain ⟨-, -, -, c3a, -, -, -, -⟩ := rblock (H1.out.1.alloc (.cells #[] 68)).blk
        have c3b : (w1.alloc (.cells #[] 68)).cell? ⟨r.g.c, 3, none⟩ = some (.slice (some ⟨g, off, none⟩) vn vc) := by rw [← H1.out.2.2.1]; exact c3a
        clear c3a
        have HI := Lib.hid hp
        clear hA hT sm hp hvl2
        go_upto_region 8 with (
          at_builtin
          refine wpList_append _ rfl _ _ 45 45 rfl 68 2 24 (.agg #[.int .i64 0, .string ByteArray.empty]) Tryd.underlying45 (.inr ⟨_, Tryd.underlying45⟩) elemRLine (.slice (some ⟨w1.heap.size, 0, none⟩) 0 0) _ rfl HA.out.2.2 (.slice (some ⟨g, off, none⟩) i vc) i _ rfl HA.out.2.1 (lcells_one _) (by rw [lcells_length, List.length_take]; simp; omega) (by rw [lcells_length, List.length_take]; simp; omega) ?_
          intro v2 w2 hv2 ht2 hw2 hn2
          have hv3 : SliceAt w2 68 2 v2 (lcells (r.wt.take i)) := by simpa using hv2
          have hnw : ∀ b, v2.ownBlock = some b → w1.heap.size ≤ b := fun b hb => by
            rcases hw2 with q | q
            · rw [q] at hb
              have e1 : w1.heap.size = b := by simpa [Value.ownBlock] using hb
              rw [e1]; exact Nat.le_refl _
            · rw [q] at hb; cases hb; simp
          have t12 : Turn (fun k => w1.heap.size ≤ k) w1 w2 := ((Turn.refl _ w1).alloc (.cells #[] 68)).trans (ht2.mono fun k _ e => by
            have e1 : w1.heap.size = k := by simpa [Value.ownBlock] using e
            rw [e1]; exact Nat.le_refl _)
          have HV2 := Lib.hid (And.intro hv3 (And.intro hnw t12))
          obtain ⟨qa, qn, qc, rfl, -⟩ := hv2.form
          clear hv2 ht2 hw2 hn2 hv3 hnw t12)
        have R2 := H1.out.1.keep HV2.out.2.2 (fun k hk hh => absurd hh (by omega))
        have gl : g < w1.heap.size := HS.out.1.lt g rfl
        have hs2 : SliceAt w2 68 2 (.slice (some ⟨g, off, none⟩) vn vc) (lcells r.wt) := HS.out.1.turn HV2.out.2.2 (fun k hk (hh : w1.heap.size ≤ k) => by
          have e1 : g = k := by simpa [Value.ownBlock] using hk
          omega)
        obtain ⟨-, -, -, e3, -, -, -, -⟩ := rblock R2.blk
        have e3' : w2.cell? ⟨r.g.c, 3, none⟩ = some (.slice (some ⟨g, off, none⟩) vn vc) := by rw [← H1.out.2.2.1]; exact e3
        have hnp : r.wt.length - p = vn - p := by rw [H1.out.2.2.2]
        have HR2 := Lib.hid (And.intro R2 (And.intro hs2 hnp))
        clear R2 hs2 e3 hnp gl
        by_cases hcp : vc = p
        · subst hcp
          have hvp : vn = vc := by have := HI.out; omega
          subst hvp
          have hsrc : Src w2 2 (.slice (some ⟨g, off, none⟩) 0 0) (vn - vn) (lcells (r.wt.drop vn)) := by
            have e4 : r.wt.drop vn = [] := List.drop_of_length_le (by rw [H1.out.2.2.2]; exact Nat.le_refl _)
            rw [e4, Nat.sub_self]
            exact Src.slice _ _ _ _ rfl (fun j u hu => by simp [lcells] at hu)
          have HSRC := Lib.hid hsrc
          clear hsrc
          go_wp2_with (
            at_builtin
            refine wpList_append _ rfl _ _ 45 45 rfl 68 2 24 (.agg #[.int .i64 0, .string ByteArray.empty]) Tryd.underlying45 (.inr ⟨_, Tryd.underlying45⟩) elemRLine (.slice qa qn qc) _ rfl HV2.out.1 (.slice (some ⟨g, off, none⟩) 0 0) (vn - vn) _ rfl HSRC.out (lcells_one _) (by rw [lcells_length, lcells_length, List.length_take, List.length_drop]; have := H1.out.2.2.2; omega) (by rw [lcells_length, lcells_length, List.length_take, List.length_drop]; have := H1.out.2.2.2; omega) ?_
            intro v3 w3 hv3 ht3 hw3 hn3
            have hv3' : SliceAt w3 68 2 v3 (lcells (r.wt.take i ++ r.wt.drop vn)) := by rw [lcells_append]; exact hv3
            have hnw : ∀ b, v3.ownBlock = some b → w1.heap.size ≤ b := fun b hb => by
              rcases hw3 with q | q
              · rw [q] at hb; exact HV2.out.2.1 b hb
              · rw [q] at hb; cases hb; exact HV2.out.2.2.size
            have t13 : Turn (fun k => w1.heap.size ≤ k) w1 w3 := HV2.out.2.2.trans (ht3.mono fun k _ e => HV2.out.2.1 k e)
            have e0 : i + 1 = vn := HI.out
            have hout := textsOf_out (k := t) (l := r.wt) (i := i) hiw HS.out.2.1 (fun j hj => HN.out j hj (by omega))
            rw [e0] at hout
            have hT13 : Turn (fun _ => False) w1 w3 := ⟨t13.os, t13.tape, t13.output, t13.size, fun k hk _ => t13.block k hk (Nat.not_le.2 hk)⟩
            have hnewt := H1.out.1.new_waiting (L := upd S.lines t (textsOf t (r.wt.drop vn))) hT13 hv3' hnw (fun j => by
              have h5 := hout.2 j
              have h6 : (fun q => textsOf q r.wt) = S.lines := funext fun q => (H1.out.1.lines q).symm
              rw [h6] at h5
              exact h5)
            have hbk : w3.heap[r.g.c]? = some (.cells (rcells r.on S) 48 (0, 0)) := (t13.block r.g.c (heap_lt H1.out.1.blk) (Nat.not_le.2 (heap_lt H1.out.1.blk))).trans H1.out.1.blk
            have y0 := rblock_cells hbk 3 (by omega)
            have y1 : w3.cell? ⟨r.g.c, 3, none⟩ = some r.wv := y0
            rw [H1.out.2.2.1] at y1
            have y2 : w3.frozen? ⟨r.g.c, 3, none⟩ = false := frozen_at hbk
            obtain ⟨za, zn, zc, rfl, -⟩ := hv3.form
            have HP := Lib.hid (show RReadPost r S w t (.returned (.tuple #[.string ⟨s.toArray⟩, .bool true])) (w3.setCell ⟨r.g.c, 3, none⟩ (.slice za zn zc)) from by
              have hl : S.lines t = s :: textsOf t (r.wt.drop vn) := by
                have h7 := hout.1
                rw [HS.out.2.2] at h7
                rw [← h7]; exact H1.out.1.lines t
              obtain ⟨r', p1, p2, p3, p4⟩ := hnewt
              refine ⟨by rw [read_of_cons hl], r', by rw [read_of_cons hl]; exact p1, H1.out.2.1.trans p2, p3, ?_⟩
              rw [p4, List.length_append, List.length_take, List.length_drop]; omega)
            clear hv3 ht3 hw3 hn3 hv3' hnw t13 e0 hout hT13 hnewt hbk y0)
          go_ret2
          exact HP.out
        · have hcp1 : p < vc := by omega
          have hsrc : Src w2 2 (.slice (some ⟨g, off + p * 2, none⟩) (vn - p) (vc - p)) (vn - p) (lcells (r.wt.drop p)) := by
            have h5 := Src.of_slice (SliceAt.drop HR2.out.2.1 p (by omega))
            rw [(lcells_split r.wt p (by rw [H1.out.2.2.2]; omega)).2] at h5
            exact h5
          have HSRC := Lib.hid hsrc
          clear hsrc
          go_wp2_with (
            at_builtin
            refine wpList_append _ rfl _ _ 45 45 rfl 68 2 24 (.agg #[.int .i64 0, .string ByteArray.empty]) Tryd.underlying45 (.inr ⟨_, Tryd.underlying45⟩) elemRLine (.slice qa qn qc) _ rfl HV2.out.1 (.slice (some ⟨g, off + p * 2, none⟩) (vn - p) (vc - p)) (vn - p) _ rfl HSRC.out (lcells_one _) (by rw [lcells_length, lcells_length, List.length_take, List.length_drop]; have := H1.out.2.2.2; omega) (by rw [lcells_length, lcells_length, List.length_take, List.length_drop]; have := H1.out.2.2.2; omega) ?_
            intro v3 w3 hv3 ht3 hw3 hn3
            have hv3' : SliceAt w3 68 2 v3 (lcells (r.wt.take i ++ r.wt.drop p)) := by rw [lcells_append]; exact hv3
            have hnw : ∀ b, v3.ownBlock = some b → w1.heap.size ≤ b := fun b hb => by
              rcases hw3 with q | q
              · rw [q] at hb; exact HV2.out.2.1 b hb
              · rw [q] at hb; cases hb; exact HV2.out.2.2.size
            have t13 : Turn (fun k => w1.heap.size ≤ k) w1 w3 := HV2.out.2.2.trans (ht3.mono fun k _ e => HV2.out.2.1 k e)
            have e0 : i + 1 = p := HI.out
            have hout := textsOf_out (k := t) (l := r.wt) (i := i) hiw HS.out.2.1 (fun j hj => HN.out j hj (by omega))
            rw [e0] at hout
            have hT13 : Turn (fun _ => False) w1 w3 := ⟨t13.os, t13.tape, t13.output, t13.size, fun k hk _ => t13.block k hk (Nat.not_le.2 hk)⟩
            have hnewt := H1.out.1.new_waiting (L := upd S.lines t (textsOf t (r.wt.drop p))) hT13 hv3' hnw (fun j => by
              have h5 := hout.2 j
              have h6 : (fun q => textsOf q r.wt) = S.lines := funext fun q => (H1.out.1.lines q).symm
              rw [h6] at h5
              exact h5)
            have hbk : w3.heap[r.g.c]? = some (.cells (rcells r.on S) 48 (0, 0)) := (t13.block r.g.c (heap_lt H1.out.1.blk) (Nat.not_le.2 (heap_lt H1.out.1.blk))).trans H1.out.1.blk
            have y0 := rblock_cells hbk 3 (by omega)
            have y1 : w3.cell? ⟨r.g.c, 3, none⟩ = some r.wv := y0
            rw [H1.out.2.2.1] at y1
            have y2 : w3.frozen? ⟨r.g.c, 3, none⟩ = false := frozen_at hbk
            obtain ⟨za, zn, zc, rfl, -⟩ := hv3.form
            have HP := Lib.hid (show RReadPost r S w t (.returned (.tuple #[.string ⟨s.toArray⟩, .bool true])) (w3.setCell ⟨r.g.c, 3, none⟩ (.slice za zn zc)) from by
              have hl : S.lines t = s :: textsOf t (r.wt.drop p) := by
                have h7 := hout.1
                rw [HS.out.2.2] at h7
                rw [← h7]; exact H1.out.1.lines t
              obtain ⟨r', p1, p2, p3, p4⟩ := hnewt
              refine ⟨by rw [read_of_cons hl], r', by rw [read_of_cons hl]; exact p1, H1.out.2.1.trans p2, p3, ?_⟩
              rw [p4, List.length_append, List.length_take, List.length_drop]; omega)
            clear hv3 ht3 hw3 hn3 hv3' hnw t13 e0 hout hT13 hnewt hbk y0)
          go_ret2
          exact HP.out
      · have hkb : (t == k) = false := by simp [hk]
        have HK := Lib.hid hk
        clear hk
        go_wp2_with fail
        go_roundg (gk - 1)
        case measure => omega
        case rel =>
          refine ⟨i + 1, by omega, by go_num, rfl, fun j hj hj2 => ?_⟩
          rcases Nat.lt_or_ge j i with q | q
          · exact HN.out j q hj2
          · obtain rfl : j = i := by omega
            rw [HS.out.2.1]; exact HK.out
    · have hi2 : i = vn := by omega
      subst hi2
      have hnil : S.lines k = [] := by
        rw [H1.out.1.lines k]
        refine textsOf_none fun x hx => ?_
        obtain ⟨j, hj, rfl⟩ := List.mem_iff_getElem.1 hx
        exact HN.out j (by rw [← H1.out.2.2.2]; exact hj) hj
      have HP := Lib.hid (show RReadPost r S w k (.returned (.tuple #[.string ⟨#[]⟩, .bool false])) w1 from ⟨by rw [read_of_nil hnil], r.on, by rw [read_of_nil hnil]; exact H1.out.1, H1.out.2.1, rfl, Nat.le_refl _⟩)
      clear hnil
      go_wp2_with fail
      go_ret2
      exact HP.out
end
end Go.Con
