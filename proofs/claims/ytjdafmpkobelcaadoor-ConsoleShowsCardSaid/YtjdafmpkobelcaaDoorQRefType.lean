/-
  The reference's one, whole; Type.
-/
import Derived.Test.YtjdafmpkobelcaaDoorQRefOne
set_option linter.unusedVariables false

namespace Go.Con
open Go.Own Go.RowKit Go.Proofs

section
variable {r : RG} {S : CS} {w w' : World}

theorem rone_nd (n : Int) (b : UInt8) (hb : (b.toNat : Int) = n) {c : Nat} (hc : r.g.c = c) (hd : RNo r S n w) (hbg : r.bg = true) (ok : S.Ok) (hsc : S.screen.length ≤ 1099511000000) (hwt : r.wt.length ≤ 1099511000) (hn0 : 0 ≤ n) (hn255 : n ≤ 255) :
    Calls Tryd.prog 39 #[.pointer (some ⟨c, 0, none⟩), .int .u8 n] w (RLinesPost r w (S.act b)) := by
  have hl80 := ok.typed
  have hc0 := ok.chosen0
  by_cases c1 : 32 ≤ n ∧ n ≤ 126
  · by_cases c2 : S.typed.length = 80
    · exact rone_full n b hb hc hd hbg ok hsc hwt hn0 hn255 c1.1 c1.2 c2
    · exact rone_put n b hb hc hd hbg ok hsc hwt hn0 hn255 c1.1 c1.2 (by omega)
  by_cases c2 : n = 10
  · exact rone_end n b hb hc hd hbg ok hsc hwt hn0 hn255 c2
  by_cases c3 : n = 127
  · by_cases c4 : S.typed.length = 0
    · exact rone_rub0 n b hb hc hd hbg ok hsc hwt hn0 hn255 c3 c4
    · exact rone_rub1 n b hb hc hd hbg ok hsc hwt hn0 hn255 c3 (by omega)
  by_cases c4 : n = 21
  · exact rone_clear n b hb hc hd hbg ok hsc hwt hn0 hn255 c4
  by_cases c5 : n = 18
  · exact rone_again n b hb hc hd hbg ok hsc hwt hn0 hn255 c5
  by_cases c6 : n = 16
  · by_cases c7 : S.typed.length = 0
    · exact rone_hand0 n b hb hc hd hbg ok hsc hwt hn0 hn255 c6 c7
    · exact rone_hand1 n b hb hc hd hbg ok hsc hwt hn0 hn255 c6 (by omega)
  by_cases c7 : n = 20
  · exact rone_choose n b hb hc hd hbg ok hsc hwt hn0 hn255 c7
  by_cases c8 : n = 0
  · exact rone_zero n b hb hc hd hbg ok hsc hwt hn0 hn255 c8
  by_cases c9 : 128 ≤ n
  · exact rone_high n b hb hc hd hbg ok hsc hwt hn0 hn255 c9
  by_cases d1 : n = 1
  · by_cases e : S.chosen = 0
    · exact rone_flag1no n b hb hc hd hbg ok hsc hwt hn0 hn255 d1 e
    · exact rone_flag1 n b hb hc hd hbg ok hsc hwt hn0 hn255 d1 (by omega)
  by_cases d2 : n = 2
  · by_cases e : S.chosen = 0
    · exact rone_flag2no n b hb hc hd hbg ok hsc hwt hn0 hn255 d2 e
    · exact rone_flag2 n b hb hc hd hbg ok hsc hwt hn0 hn255 d2 (by omega)
  by_cases d3 : n = 3
  · by_cases e : S.chosen = 0
    · exact rone_flag3no n b hb hc hd hbg ok hsc hwt hn0 hn255 d3 e
    · exact rone_flag3 n b hb hc hd hbg ok hsc hwt hn0 hn255 d3 (by omega)
  by_cases d4 : n = 4
  · by_cases e : S.chosen = 0
    · exact rone_flag4no n b hb hc hd hbg ok hsc hwt hn0 hn255 d4 e
    · exact rone_flag4 n b hb hc hd hbg ok hsc hwt hn0 hn255 d4 (by omega)
  exact rone_low n b hb hc hd hbg ok hsc hwt hn0 hn255 (by omega) (by omega) (by omega) (by omega) (by omega) (by omega) (by omega)

set_option maxRecDepth 10000 in
set_option maxHeartbeats 1000000 in
theorem rone_digit (b : UInt8) (n : Int) (hbn : (b.toNat : Int) = n) {c : Nat} (hc : r.g.c = c) (h : RRep r S w) (hb : r.bg = true) (ht : S.typing = true) (h0 : 48 ≤ n) (h1 : n ≤ 57) (hok : S.Ok) :
    Calls Tryd.prog 39 #[.pointer (some ⟨c, 0, none⟩), .int .u8 n] w (RLinesPost r w (S.digit b, [])) := by
  subst hc
  have HD := Lib.hid (rdigit_yes b n hbn rfl h hb ht h0 h1 hok)
  have HG := Lib.hid hb
  clear hbn ht hb
  go_enter Tryd.func39, Tryd.ntmps39
  go_wp2_with fail
  refine HD.out.mono ?_
  rintro e1 w1 ⟨rfl, r1, s1⟩
  clear HD
  go_wp2
  go_ret
  exact RLinesPost.nil rfl r1 s1 HG.out rfl

theorem rone_calls (b : UInt8) {c : Nat} (hc : r.g.c = c) (h : RRep r S w) (hbg : r.bg = true) (hok : S.Ok) (hsc : S.screen.length ≤ 1099511000000) (hwt : r.wt.length ≤ 1099511000) :
    Calls Tryd.prog 39 #[.pointer (some ⟨c, 0, none⟩), .int .u8 (b.toNat : Int)] w (RLinesPost r w (S.key b)) := by
  have hb255 : (b.toNat : Int) ≤ 255 := by have := b.toNat_lt; omega
  unfold CS.key
  by_cases hty : S.typing = true
  · rw [if_pos hty]
    by_cases hd : isDigit b = true
    · rw [if_pos hd]
      have := (isDigit_iff b).1 hd
      exact rone_digit b _ rfl hc h hbg hty (by omega) (by omega) hok
    · rw [if_neg hd]
      have hnd : ¬ (48 ≤ b.toNat ∧ b.toNat ≤ 57) := fun e => hd ((isDigit_iff b).2 e)
      exact rone_nd _ b rfl hc (rdigit_nd _ h hbg hok.digits0 (by omega) hb255 (fun _ => by omega)) hbg (CS.untyping_ok hok) hsc hwt (by omega) hb255
  · rw [if_neg hty]
    have hty' : S.typing = false := by simpa using hty
    have e1 : ({ S with typing := false } : CS) = S := by rw [← hty']
    have hd := rdigit_nd (b.toNat : Int) h hbg hok.digits0 (by omega) hb255 (fun e => absurd e hty)
    rw [e1] at hd
    exact rone_nd _ b rfl hc hd hbg hok hsc hwt (by omega) hb255

def RTypeInv (r : RG) (S : CS) (w : World) (l : Bytes) (k : Nat) (ov : Value) (wr : World) : Prop :=
  ∃ r', RRep r' (S.type (l.take k)).1 wr ∧ Step r.g r'.g w wr ∧ SliceAt wr 68 2 ov (lcells (S.type (l.take k)).2) ∧ (∀ b, ov.ownBlock = some b → w.heap.size ≤ b ∧ (r'.g.ρ b).1 = 0) ∧ r'.bg = true ∧ r'.wt = r.wt ++ (S.type (l.take k)).2

set_option maxHeartbeats 1000000 in
theorem rtype_calls (a : Option Addr) (cap : Nat) (l : Bytes) {c : Nat} (hc : r.g.c = c) (h : RRep r S w) (hok : S.Ok) {N : Nat} (hsm : S.Small N) (hN : N + 250 * l.length ≤ 1099511000000) (hl : l.length ≤ 1000000) (hwt : r.wt.length ≤ 1000000000) (hin : BIn r.g.ρ w a l) :
    Calls Tryd.prog 28 #[.pointer (some ⟨c, 0, none⟩), .slice a l.length cap] w (RLinesPost r w (S.type l)) := by
  subst hc
  go_enter Tryd.func28, Tryd.ntmps28
  go_wp2_with fail
  refine (rstart_calls rfl h).mono ?_
  rintro e1 w1 ⟨rfl, r1, s1⟩
  have hin1 := hin.step s1
  clear hin
  go_wp2_with fail
  go_loopw [5, 6] (fun out i wr => ∃ k : Nat, k ≤ l.length ∧ i = .int .i64 k ∧ RTypeInv { r with bg := true } S w1 l k out wr) (fun _ i _ => l.length - (intOf i).toNat)
  case atStart => exact ⟨0, Nat.zero_le _, rfl, _, r1, Step.refl _ _, SliceAt.nil _ _ _, fun b hb => by simp [Value.ownBlock] at hb, rfl, by simp [CS.type]⟩
  case round =>
    obtain ⟨k, hk, rfl, r2, h2, s2, o1, n1, b2, t2⟩ := hrel
    by_cases hlt : k < l.length
    · have hin2 := hin1.step s2
      obtain ⟨b, off, rfl, hb0, hb1, hcell⟩ := hin2.resolve_left (fun e => by rw [e] at hlt; simp at hlt)
      have hck := hcell k hlt
      obtain ⟨oa, on, oc, rfl, ol, -⟩ := o1.form
      have ok1 := CS.type_ok hok (l.take k)
      have sm1 : (S.type (l.take k)).1.Small 1099511000000 := CS.type_small hsm hok _ (by rw [List.length_take]; omega)
      have hsucc := type_take_succ S l k hlt
      have hln := CS.type_lines S (l.take k)
      have hkl := CS.key_lines (S.type (l.take k)).1 l[k]
      rw [lcells_length] at ol
      have hln2 : (S.type (l.take k)).2.length ≤ k := by rw [List.length_take] at hln; omega
      have hwt2 : r2.wt.length ≤ 1099511000 := by rw [t2, List.length_append]; show r.wt.length + _ ≤ _; omega
      have HS := Lib.hid hsucc
      have OL := Lib.hid o1.lt
      have HW := Lib.hid (And.intro hwt2 t2)
      clear hsucc hin1 hin2 hcell hln ol hwt2 t2
      generalize hbk : l[k] = bk at *
      clear hbk
      generalize hSk : S.type (l.take k) = Rk at *
      clear hSk
      go_wp2_with fail
      refine (rone_calls bk s2.c h2 b2 ok1 sm1.screen HW.out.1).mono ?_
      rintro e3 w3 ⟨v3, r3, rfl, h3, s3, o3, n3, b3, t3⟩
      obtain ⟨qa, qn, qc, rfl, -⟩ := o3.form
      have o1' : SliceAt w3 68 2 (.slice oa on oc) (lcells Rk.2) := o1.turn s3.turn (fun q hq => by simp [(n1 q hq).2])
      have HT := Lib.hid t3
      clear o1 t3
      go_wp2_with (at_builtin; refine wpList_append _ rfl _ _ 45 45 rfl 68 2 24 (.agg #[.int .i64 0, .string ByteArray.empty]) Tryd.underlying45 (.inr ⟨_, Tryd.underlying45⟩) elemRLine (.slice oa on oc) _ rfl o1' _ _ _ rfl (Src.of_slice o3) (lcells_one _) (by rw [lcells_length, lcells_length]; omega) (by rw [lcells_length, lcells_length]; omega) ?_
                   intro v4 w4 hv4 ht4 hw4 hn4; clear hn4; obtain ⟨pa, pn, pc, rfl, -⟩ := hv4.form)
      have hb2 := s2.turn.size
      have hb3 := s3.turn.size
      have hT : ∀ q, (Value.slice oa on oc).ownBlock = some q → w1.heap.size ≤ q ∧ (r3.g.ρ q).1 = 0 := fun q hq => ⟨(n1 q hq).1, by rw [s3.tags q (OL.out q hq)]; exact (n1 q hq).2⟩
      refine ⟨⟨k + 1, by omega, by go_num, r3, ?_, (s2.trans s3).turn_new ht4 (fun q hq => (hT q hq).1), ?_, fun q hq => ?_, b3, ?_⟩, by simp [intOf]; omega⟩
      · rw [HS.out]
        exact h3.keep ht4 (fun q _ hq => (hT q hq).2)
      · rw [HS.out, lcells_append]; exact hv4
      · rcases hw4 with hw4 | hw4
        · exact hT q (hw4 ▸ hq)
        · rw [hw4] at hq
          cases hq
          exact ⟨by omega, h3.fresh _ (Nat.le_refl _)⟩
      · rw [HS.out, HT.out, HW.out.2, List.append_assoc]
    · obtain rfl : k = l.length := by omega
      go_wp2
      go_ret
      rw [List.take_length] at h2 o1 t2
      exact ⟨_, r2, rfl, h2, s1.trans s2, o1, fun q hq => ⟨Nat.le_trans s1.turn.size (n1 q hq).1, (n1 q hq).2⟩, b2, t2⟩
end
end Go.Con
