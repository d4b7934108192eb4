/-
  The reference's one: what a byte does, walked, arm by arm. (Printed by gen/genone.py.)
-/
import Derived.Test.YtjdafmpkobelcaaDoorQRefWalk2
set_option linter.unusedVariables false

namespace Go.Con
open Go.Own Go.RowKit Go.Proofs

section
variable {r : RG} {S : CS} {w w' : World}

theorem RLinesPost.nil {R : CS × List Ln} {r' : RG} (hR : R.2 = []) (h : RRep r' R.1 w') (hs : Step r.g r'.g w w') (hb : r'.bg = true) (hw : r'.wt = r.wt) : RLinesPost r w R (.returned (.slice none 0 0)) w' :=
  ⟨_, r', rfl, h, hs, by rw [hR]; exact SliceAt.nil _ _ _, fun b hb => by simp [Value.ownBlock] at hb, hb, by rw [hR, hw]; simp⟩

theorem RLinesPost.after {R : CS × List Ln} {r1 : RG} {w1 : World} {e : Ending} (hs : Step r.g r1.g w w1) (hw : r1.wt = r.wt) (h : RLinesPost r1 w1 R e w') : RLinesPost r w R e w' := by
  obtain ⟨v, r', rfl, h, s, o, n, b, t⟩ := h
  exact ⟨v, r', rfl, h, hs.trans s, o, fun q hq => ⟨Nat.le_trans hs.turn.size (n q hq).1, (n q hq).2⟩, b, by rw [t, hw]⟩

/-- The byte is taken for no digit; then the state is S. -/
def RNo (r : RG) (S : CS) (n : Int) (w : World) : Prop :=
  Calls Tryd.prog 42 #[.pointer (some ⟨r.g.c, 0, none⟩), .int .u8 n] w fun e w' => e = .returned (.bool false) ∧ RRep r S w' ∧ Step r.g r.g w w'

theorem rdigit_nd (n : Int) (h : RRep r S w) (hb : r.bg = true) (hd0 : 0 ≤ S.digits) (h0 : 0 ≤ n) (h1 : n ≤ 255) (hn : S.typing = true → n < 48 ∨ 57 < n) : RNo r { S with typing := false } n w := by
  by_cases ht : S.typing = true
  · exact rdigit_no n rfl h hb ht hd0 h0 h1 (hn ht)
  · have ht' : S.typing = false := by simpa using ht
    refine (rdigit_off n rfl h hb ht').mono ?_
    rintro e w' ⟨he, rfl⟩
    have e1 : ({ S with typing := false } : CS) = S := by rw [← ht']
    exact ⟨he, by rw [e1]; exact h, Step.refl _ _⟩

theorem rcell_flag (k : Nat) (hk : k < 100) : rcell r S (4 + k) = .int .i64 (S.flags (k : Int)) := by
  unfold rcell
  rw [if_neg (by omega), if_neg (by omega), if_neg (by omega), if_neg (by omega), if_pos (by omega), show 4 + k - 4 = k from by omega]

theorem RRep.set_flag (h : RRep r S w) (k : Nat) (hk : k < 100) (x : Int) : RRep r { S with flags := upd S.flags k x } (w.setCell ⟨r.g.c, 4 + k, none⟩ (.int .i64 x)) ∧ Step r.g r.g w (w.setCell ⟨r.g.c, 4 + k, none⟩ (.int .i64 x)) :=
  h.scalar (r' := r) (S' := { S with flags := upd S.flags k x }) (4 + k) _ rfl ⟨rfl, rfl, rfl⟩ ⟨rfl, rfl, rfl, rfl⟩ (by rw [rcell_flag k hk]; show Value.int .i64 (upd S.flags k x k) = _; rw [upd_self])
    (fun j hj => by
      unfold rcell
      by_cases h4 : 4 ≤ j ∧ j < 104
      · rw [if_neg (by omega), if_neg (by omega), if_neg (by omega), if_neg (by omega), if_pos (by omega), if_neg (by omega), if_neg (by omega), if_neg (by omega), if_neg (by omega), if_pos (by omega)]
        show _ = Value.int .i64 (upd S.flags k x ((j - 4 : Nat) : Int))
        rw [upd_ne _ _ (by omega)]
      · by_cases h5 : j < 104
        · have : j = 0 ∨ j = 1 ∨ j = 2 ∨ j = 3 := by omega
          rcases this with rfl | rfl | rfl | rfl <;> rfl
        · simp only [if_neg h5]) h.two h.nb

theorem RRep.set_choose (h : RRep r S w) (hb : r.bg = true) : RRep r { S with typing := true, digits := 0 } (w.setCell ⟨r.g.c, 2, none⟩ (.int .i64 0)) ∧ Step r.g r.g w (w.setCell ⟨r.g.c, 2, none⟩ (.int .i64 0)) :=
  h.scalar (r' := r) (S' := { S with typing := true, digits := 0 }) 2 _ rfl ⟨rfl, rfl, rfl⟩ ⟨rfl, rfl, rfl, rfl⟩ (by simp [rcell, hb]) (fun j hj => by unfold rcell; simp only [if_neg hj]) (fun _ _ e => absurd rfl e) (fun e => by rw [hb] at e; cases e)

def lenAt (w : World) (c : Nat) : Nat := match w.cell? ⟨c, 0, none⟩ with | some (.slice _ n _) => n | _ => 0
theorem RRep.lenAt (h : RRep r S w) : lenAt w r.g.c = S.typed.length := by
  obtain ⟨a, cap, hv, -⟩ := h.typed_form
  obtain ⟨c0, -⟩ := rblock h.blk
  unfold Go.Con.lenAt
  rw [c0, hv]

set_option maxRecDepth 10000 in
set_option maxHeartbeats 1000000 in
theorem rone_full (n : Int) (b : UInt8) (hb : (b.toNat : Int) = n) {c : Nat} (hc : r.g.c = c) (hd : RNo r S n w) (hbg : r.bg = true) (ok : S.Ok) (hsc : S.screen.length ≤ 1099511000000) (hwt : r.wt.length ≤ 1099511000) (hn0 : 0 ≤ n) (hn255 : n ≤ 255) (h1 : 32 ≤ n) (h2 : n ≤ 126) (hlen : S.typed.length = 80) :
    Calls Tryd.prog 39 #[.pointer (some ⟨c, 0, none⟩), .int .u8 n] w (RLinesPost r w (S.act b)) := by
  subst hc
  have HB := Lib.hid hb
  have HG := Lib.hid hbg
  have HD := Lib.hid hd
  clear hb hbg hd
  go_enter Tryd.func39, Tryd.ntmps39
  go_wp2_with fail
  refine HD.out.mono ?_
  rintro e1 w1 ⟨rfl, r1, s1⟩
  clear HD
  obtain ⟨a, cap, hv, hcp, hsl⟩ := r1.typed_form
  obtain ⟨c0, -, -, -, -, -, -, fz⟩ := rblock r1.blk
  rw [hv] at c0
  rw [hlen] at c0
  have hlen2 := Lib.hid hlen
  clear hlen hv hcp hsl
  have r1a := r1.alloc (.cells #[.int .u8 7] 5)
  go_wp2_with fail
  refine (recho_calls [7] rfl r1a _ _ _ (Src.one (x := .int .u8 7) (g := w1.heap.size) rfl (heap_alloc_new w1 _)) (by simp; omega)).mono ?_
  rintro e2 w2 ⟨rfl, r2, h2, s2, b2, t2⟩
  go_wp2
  go_ret
  have hbn := HB.out
  have e1 : S.act b = (S.echo [7], []) := by unfold CS.act; rw [if_pos (by omega), if_pos hlen2.out]
  rw [e1]
  exact RLinesPost.nil rfl h2 ((s1.alloc _).trans s2) (b2.trans HG.out) t2

set_option maxRecDepth 10000 in
set_option maxHeartbeats 1000000 in
theorem rone_put (n : Int) (b : UInt8) (hb : (b.toNat : Int) = n) {c : Nat} (hc : r.g.c = c) (hd : RNo r S n w) (hbg : r.bg = true) (ok : S.Ok) (hsc : S.screen.length ≤ 1099511000000) (hwt : r.wt.length ≤ 1099511000) (hn0 : 0 ≤ n) (hn255 : n ≤ 255) (h1 : 32 ≤ n) (h2 : n ≤ 126) (hlen : S.typed.length < 80) :
    Calls Tryd.prog 39 #[.pointer (some ⟨c, 0, none⟩), .int .u8 n] w (RLinesPost r w (S.act b)) := by
  subst hc
  have HB := Lib.hid hb
  have HG := Lib.hid hbg
  have HD := Lib.hid hd
  clear hb hbg hd
  go_enter Tryd.func39, Tryd.ntmps39
  go_wp2_with fail
  refine HD.out.mono ?_
  rintro e1 w1 ⟨rfl, r1, s1⟩
  clear HD
  obtain ⟨a, cap, hv, hcp, hsl⟩ := r1.typed_form
  obtain ⟨c0, -, -, -, -, -, -, fz⟩ := rblock r1.blk
  rw [hv] at c0
  have r1a := r1.alloc (.cells #[.int .u8 n] 5)
  obtain ⟨d0, -, -, -, -, -, -, fd⟩ := rblock r1a.blk
  have hsl2 := r1a.typed.1
  rw [hv] at d0 hsl2
  have hne : (((S.typed.length : Nat) : Int) == 80) = false := by simp; omega
  have hty2 : ∀ k, (Value.slice a S.typed.length cap).ownBlock = some k → r.g.tv.ownBlock = some k := fun k hk => by rw [hv]; exact hk
  have HV := Lib.hid (And.intro hv hty2)
  clear hv hsl hty2
  go_wp2_with (at_builtin; refine wpList_append _ rfl _ _ 26 26 rfl 5 1 1 (.int .u8 0) Tryd.underlying26 (.inr ⟨_, Tryd.underlying26⟩) elemU8 (.slice a S.typed.length cap) _ rfl hsl2 _ _ _ rfl (Src.one (g := w1.heap.size) rfl (heap_alloc_new w1 _)) (by intro u hu; simp at hu; subst hu; rfl) (by simp [bcells_length]; omega) (by simp [bcells_length]; omega) ?_
               intro v2 w2 hv2 ht2 hw2 hn2
               clear hn2
               obtain ⟨pa, pn, pc, rfl, -⟩ := hv2.form
               have hb2 := r1a.block_after ht2 (fun e => r1a.typed_ne (HV.out.2 _ e))
               obtain ⟨e0, -, -, -, -, -, -, fe⟩ := rblock hb2)
  have hv3 : SliceAt w2 5 1 (.slice pa pn pc) (bcells (S.typed ++ [b])) := by (rw [bcells_append]; rw [show bcells [b] = [.int .u8 n] from by simp [bcells, HB.out]]; exact hv2)
  have pt := r1a.append_typed (ht2.mono fun k _ hk => HV.out.2 k hk) hv3 (hw2.imp_left fun e => e.trans (by rw [HV.out.1]))
  have ptr := Lib.hid (pt.1.alloc (.cells #[.int .u8 n] 5))
  have pts := Lib.hid pt.2
  have hnew := Lib.hid (heap_alloc_new (w2.setCell ⟨r.g.c, 0, none⟩ (.slice pa pn pc)) (.cells #[.int .u8 n] 5))
  have hnz : (w2.setCell ⟨r.g.c, 0, none⟩ (.slice pa pn pc)).heap.size = w2.heap.size := by simp
  rw [hnz] at hnew
  clear hv2 hv3 pt hb2 hnz
  refine (recho_calls (S := { S with typed := S.typed ++ [b] }) [b] rfl ptr.out _ _ _ (by rw [show bcells [b] = [.int .u8 n] from by simp [bcells, HB.out]]; exact Src.one rfl hnew.out) (by simp; omega)).mono ?_
  rintro e3 w3 ⟨rfl, r3, h3, s3, b3, t3⟩
  go_wp2
  go_ret
  have hbn := HB.out
  have e1 : S.act b = (CS.echo { S with typed := S.typed ++ [b] } [b], []) := by unfold CS.act; rw [if_pos (by omega), if_neg (by omega)]
  rw [e1]
  exact RLinesPost.nil rfl h3 ((((s1.alloc _).trans pts.out).alloc _).trans s3) (b3.trans HG.out) t3

set_option maxRecDepth 10000 in
set_option maxHeartbeats 1000000 in
theorem rone_end (n : Int) (b : UInt8) (hb : (b.toNat : Int) = n) {c : Nat} (hc : r.g.c = c) (hd : RNo r S n w) (hbg : r.bg = true) (ok : S.Ok) (hsc : S.screen.length ≤ 1099511000000) (hwt : r.wt.length ≤ 1099511000) (hn0 : 0 ≤ n) (hn255 : n ≤ 255) (hn : n = 10) :
    Calls Tryd.prog 39 #[.pointer (some ⟨c, 0, none⟩), .int .u8 n] w (RLinesPost r w (S.act b)) := by
  subst hc
  subst hn
  have HB := Lib.hid hb
  have HG := Lib.hid hbg
  have HD := Lib.hid hd
  clear hb hbg hd
  go_enter Tryd.func39, Tryd.ntmps39
  go_wp2_with fail
  refine HD.out.mono ?_
  rintro e1 w1 ⟨rfl, r1, s1⟩
  clear HD
  have r1a := r1.alloc (.cells #[.int .u8 10] 5)
  go_wp2_with fail
  refine (recho_calls [10] rfl r1a _ _ _ (Src.one (x := .int .u8 10) (g := w1.heap.size) rfl (heap_alloc_new w1 _)) (by simp; omega)).mono ?_
  rintro e2 w2 ⟨rfl, r2, h2, s2, b2, t2⟩
  have s12 := Lib.hid ((s1.alloc _).trans s2)
  clear s2
  go_wp2_with fail
  refine (rhand_calls [10] s12.out.c h2 (b2.trans HG.out) ok.typed (by simp) (by rw [t2]; omega) ok.chosen0 ok.chosen).mono ?_
  rintro e3 w3 hp
  have hp3 := Lib.hid hp
  obtain ⟨v3, r3, rfl, -⟩ := hp
  go_wp2
  go_ret
  have hbn := HB.out
  have e1 : S.act b = (S.echo [10]).hand [10] := by unfold CS.act; rw [if_neg (by omega), if_pos (by omega)]
  rw [e1]
  exact RLinesPost.after s12.out t2 hp3.out

set_option maxRecDepth 10000 in
set_option maxHeartbeats 1000000 in
theorem rone_rub0 (n : Int) (b : UInt8) (hb : (b.toNat : Int) = n) {c : Nat} (hc : r.g.c = c) (hd : RNo r S n w) (hbg : r.bg = true) (ok : S.Ok) (hsc : S.screen.length ≤ 1099511000000) (hwt : r.wt.length ≤ 1099511000) (hn0 : 0 ≤ n) (hn255 : n ≤ 255) (hn : n = 127) (hlen : S.typed.length = 0) :
    Calls Tryd.prog 39 #[.pointer (some ⟨c, 0, none⟩), .int .u8 n] w (RLinesPost r w (S.act b)) := by
  subst hc
  subst hn
  have HB := Lib.hid hb
  have HG := Lib.hid hbg
  have HD := Lib.hid hd
  clear hb hbg hd
  go_enter Tryd.func39, Tryd.ntmps39
  go_wp2_with fail
  refine HD.out.mono ?_
  rintro e1 w1 ⟨rfl, r1, s1⟩
  clear HD
  obtain ⟨a, cap, hv, hcp, hsl⟩ := r1.typed_form
  obtain ⟨c0, -, -, -, -, -, -, fz⟩ := rblock r1.blk
  rw [hv] at c0
  rw [hlen] at c0
  have hlen2 := Lib.hid hlen
  clear hlen hv hcp hsl
  go_wp2
  go_ret
  have hbn := HB.out
  have e1 : S.act b = (S.rub (min 1 S.typed.length), []) := by unfold CS.act; rw [if_neg (by omega), if_neg (by omega), if_pos (by omega)]
  rw [e1]
  refine RLinesPost.nil rfl ?_ s1 HG.out rfl
  have e2 : S.rub (min 1 S.typed.length) = S := by rw [hlen2.out]; unfold CS.rub; rw [show min 1 0 = 0 from rfl, Nat.sub_zero, List.take_length]; simp [rubs]
  show RRep r (S.rub _) _
  rw [e2]; exact r1

set_option maxRecDepth 10000 in
set_option maxHeartbeats 1000000 in
theorem rone_rub1 (n : Int) (b : UInt8) (hb : (b.toNat : Int) = n) {c : Nat} (hc : r.g.c = c) (hd : RNo r S n w) (hbg : r.bg = true) (ok : S.Ok) (hsc : S.screen.length ≤ 1099511000000) (hwt : r.wt.length ≤ 1099511000) (hn0 : 0 ≤ n) (hn255 : n ≤ 255) (hn : n = 127) (hlen : 0 < S.typed.length) :
    Calls Tryd.prog 39 #[.pointer (some ⟨c, 0, none⟩), .int .u8 n] w (RLinesPost r w (S.act b)) := by
  subst hc
  subst hn
  have HB := Lib.hid hb
  have HG := Lib.hid hbg
  have HD := Lib.hid hd
  clear hb hbg hd
  go_enter Tryd.func39, Tryd.ntmps39
  go_wp2_with fail
  refine HD.out.mono ?_
  rintro e1 w1 ⟨rfl, r1, s1⟩
  clear HD
  obtain ⟨a, cap, hv, hcp, hsl⟩ := r1.typed_form
  obtain ⟨c0, -, -, -, -, -, -, fz⟩ := rblock r1.blk
  rw [hv] at c0
  have hm80 := ok.typed
  obtain ⟨m, hm1⟩ : ∃ m, S.typed.length = m + 1 := ⟨S.typed.length - 1, by omega⟩
  rw [hm1] at c0 hcp hsl
  have H := Lib.hid hm1
  have Hv := Lib.hid hv
  have hm2 : m < 80 := by omega
  have hw1 : IntKind.i64.wrap (m : Int) = m := IntWalk.i64_in _ (by omega)
  have hw2 : wrap64 (m : Int) = m := by unfold wrap64; omega
  have hw3 : (0 : Int) ≤ m := by omega
  have hw4 : (m : Int) ≤ cap := by omega
  clear hm1 hv hlen hm80
  go_wp2
  go_region
  obtain ⟨r2, s2⟩ := r1.set_typed (.slice a m cap) (S.typed.take m) ⟨by rw [← bcells_take]; have := hsl.take m (by omega); rwa [Nat.mul_one] at this, fun q hq => r1.typed.2 q (by rw [Hv.out]; cases a <;> exact hq)⟩
  have r3 := Lib.hid r2.drew
  have s3 := Lib.hid (s1.trans s2).drew
  clear hw1 hw2 hw3 hw4 c0 fz hsl r2 s2
  go_wp2_with fail
  refine (rrub_calls (S := { S with typed := S.typed.take m }) rfl r3.out (by show S.screen.length ≤ _; omega)).mono ?_
  rintro e3 w3 ⟨rfl, r4, h4, s4, b4, t4⟩
  have hlen : 0 < S.typed.length := by have := H.out; omega
  go_wp2
  go_ret
  have hbn := HB.out
  have e1 : S.act b = (S.rub (min 1 S.typed.length), []) := by unfold CS.act; rw [if_neg (by omega), if_neg (by omega), if_pos (by omega)]
  rw [e1]
  refine RLinesPost.nil rfl ?_ (s3.out.trans s4) (b4.trans HG.out) t4
  have e2 : S.rub (min 1 S.typed.length) = CS.echo { S with typed := S.typed.take m } [8, 32, 8] := by
    rw [H.out]
    unfold CS.rub CS.echo
    rw [show min 1 (m + 1) = 1 from by omega, H.out, show m + 1 - 1 = m from rfl]
    rfl
  show RRep r4 (S.rub _) _
  rw [e2]; exact h4

set_option maxRecDepth 10000 in
set_option maxHeartbeats 1000000 in
theorem rone_clear (n : Int) (b : UInt8) (hb : (b.toNat : Int) = n) {c : Nat} (hc : r.g.c = c) (hd : RNo r S n w) (hbg : r.bg = true) (ok : S.Ok) (hsc : S.screen.length ≤ 1099511000000) (hwt : r.wt.length ≤ 1099511000) (hn0 : 0 ≤ n) (hn255 : n ≤ 255) (hn : n = 21) :
    Calls Tryd.prog 39 #[.pointer (some ⟨c, 0, none⟩), .int .u8 n] w (RLinesPost r w (S.act b)) := by
  subst hc
  subst hn
  have HB := Lib.hid hb
  have HG := Lib.hid hbg
  have HD := Lib.hid hd
  clear hb hbg hd
  go_enter Tryd.func39, Tryd.ntmps39
  go_wp2_with fail
  refine HD.out.mono ?_
  rintro e1 w1 ⟨rfl, r1, s1⟩
  clear HD
  obtain ⟨a, cap, hv, hcp, hsl⟩ := r1.typed_form
  obtain ⟨c0, -, -, -, -, -, -, fz⟩ := rblock r1.blk
  rw [hv] at c0
  go_wp2
  go_loopw [] (fun wr => ∃ k : Nat, k ≤ S.typed.length ∧ ∃ r', RRep r' (S.rub k) wr ∧ Step r.g r'.g w wr ∧ r'.bg = true ∧ r'.wt = r.wt) (fun wr => lenAt wr r.g.c)
  case atStart => exact ⟨0, Nat.zero_le _, r, by rw [show S.rub 0 = S from by simp [CS.rub, rubs]]; exact r1, s1, HG.out, rfl⟩
  case round =>
    obtain ⟨k, hk, r2, h2, s2, b2, t2⟩ := hrel
    have hlen : (S.rub k).typed.length = S.typed.length - k := by simp [CS.rub]
    have hla := h2.lenAt
    rw [s2.c, hlen] at hla
    have HLA := Lib.hid hla
    clear hla c0 fz hv hsl hcp
    obtain ⟨a, cap, hv, hcp, hsl⟩ := h2.typed_form
    obtain ⟨c0, -, -, -, -, -, -, fz⟩ := rblock h2.blk
    rw [hlen] at hv hcp hsl
    rw [hv, s2.c] at c0
    rw [s2.c] at fz
    have hm80 := ok.typed
    by_cases hlt : k < S.typed.length
    · obtain ⟨m, hm1⟩ : ∃ m, S.typed.length - k = m + 1 := ⟨S.typed.length - k - 1, by omega⟩
      rw [hm1] at c0 hcp hsl
      have H := Lib.hid hm1
      have Hv := Lib.hid hv
      have hm2 : m < 80 := by omega
      have hw1 : IntKind.i64.wrap (m : Int) = m := IntWalk.i64_in _ (by omega)
      have hw2 : wrap64 (m : Int) = m := by unfold wrap64; omega
      have hw3 : (0 : Int) ≤ m := by omega
      have hw4 : (m : Int) ≤ cap := by omega
      clear hm1 hv hlen
      go_wp2
      go_region
      obtain ⟨r3, s3⟩ := h2.set_typed (.slice a m cap) ((S.rub k).typed.take m) ⟨by rw [← bcells_take]; have := hsl.take m (by omega); rwa [Nat.mul_one] at this, fun q hq => h2.typed.2 q (by rw [Hv.out]; cases a <;> exact hq)⟩
      rw [s2.c] at r3 s3
      have r3 := Lib.hid r3.drew
      have s3 := Lib.hid (s2.trans s3).drew
      have e2 : CS.echo { S.rub k with typed := (S.rub k).typed.take m } [8, 32, 8] = S.rub (k + 1) := by
        have hh := H.out
        simp only [CS.echo, CS.rub, rubs, List.take_take, List.append_assoc]
        rw [show min m (S.typed.length - k) = S.typed.length - (k + 1) from by omega]
      have hsb : ({ S.rub k with typed := (S.rub k).typed.take m } : CS).screen.length ≤ 1099511620000 := by
        simp [CS.rub, rubs_length]; omega
      have E2 := Lib.hid e2
      clear hw1 hw2 hw3 hw4 c0 fz hsl e2
      go_wp2_with fail
      refine (rrub_calls (r := { r2 with g := { r2.g with tv := .slice a m cap } }) (S := { S.rub k with typed := (S.rub k).typed.take m }) s3.out.c r3.out hsb).mono ?_
      rintro e3 w3 ⟨rfl, r4, h4, s4, b4, t4⟩
      rw [E2.out] at h4
      go_wp2
      refine ⟨⟨k + 1, by omega, r4, h4, s3.out.trans s4, b4.trans b2, t4.trans t2⟩, ?_⟩
      · have h5 := h4.lenAt
        rw [(s3.out.trans s4).c, show (S.rub (k + 1)).typed.length = S.typed.length - (k + 1) from by simp [CS.rub]] at h5
        rw [HLA.out, h5]
        omega
    · obtain rfl : k = S.typed.length := by omega
      rw [Nat.sub_self] at c0
      go_wp2
      go_ret
      have hbn := HB.out
      have e1 : S.act b = (S.rub S.typed.length, []) := by unfold CS.act; rw [if_neg (by omega), if_neg (by omega), if_neg (by omega), if_pos (by omega)]
      rw [e1]
      exact RLinesPost.nil rfl h2 s2 b2 t2

set_option maxRecDepth 10000 in
set_option maxHeartbeats 1000000 in
theorem rone_again (n : Int) (b : UInt8) (hb : (b.toNat : Int) = n) {c : Nat} (hc : r.g.c = c) (hd : RNo r S n w) (hbg : r.bg = true) (ok : S.Ok) (hsc : S.screen.length ≤ 1099511000000) (hwt : r.wt.length ≤ 1099511000) (hn0 : 0 ≤ n) (hn255 : n ≤ 255) (hn : n = 18) :
    Calls Tryd.prog 39 #[.pointer (some ⟨c, 0, none⟩), .int .u8 n] w (RLinesPost r w (S.act b)) := by
  subst hc
  subst hn
  have HB := Lib.hid hb
  have HG := Lib.hid hbg
  have HD := Lib.hid hd
  clear hb hbg hd
  go_enter Tryd.func39, Tryd.ntmps39
  go_wp2_with fail
  refine HD.out.mono ?_
  rintro e1 w1 ⟨rfl, r1, s1⟩
  clear HD
  have r1a := r1.alloc (.cells #[.int .u8 10] 5)
  go_wp2_with fail
  refine (recho_calls [10] rfl r1a _ _ _ (Src.one (x := .int .u8 10) (g := w1.heap.size) rfl (heap_alloc_new w1 _)) (by simp; omega)).mono ?_
  rintro e2 w2 ⟨rfl, r2, h2, s2, b2, t2⟩
  obtain ⟨a, cap, hv, hcp, hsl⟩ := h2.typed_form
  obtain ⟨c0, -, -, -, -, -, -, fz⟩ := rblock h2.blk
  have hcc := ((s1.alloc _).trans s2).c
  rw [hv, hcc] at c0
  rw [hcc] at fz
  have HS := Lib.hid (And.intro hsl hcc)
  have s12 := Lib.hid ((s1.alloc _).trans s2)
  clear hv hcp hsl hcc s2
  go_wp2_with fail
  refine (recho_calls (S := S.echo [10]) S.typed HS.out.2 h2 _ _ _ (Src.of_slice HS.out.1) (by have := ok.typed; simp [CS.echo]; omega)).mono ?_
  rintro e3 w3 ⟨rfl, r3, h3, s3, b3, t3⟩
  go_wp2
  go_ret
  have hbn := HB.out
  have e1 : S.act b = (S.echo ([10] ++ S.typed), []) := by unfold CS.act; rw [if_neg (by omega), if_neg (by omega), if_neg (by omega), if_neg (by omega), if_pos (by omega)]
  rw [e1]
  refine RLinesPost.nil rfl ?_ (s12.out.trans s3) (b3.trans (b2.trans HG.out)) (t3.trans t2)
  have e2 : S.echo ([10] ++ S.typed) = (S.echo [10]).echo S.typed := by simp [CS.echo]
  show RRep r3 (S.echo _) _
  rw [e2]; exact h3

set_option maxRecDepth 10000 in
set_option maxHeartbeats 1000000 in
theorem rone_hand0 (n : Int) (b : UInt8) (hb : (b.toNat : Int) = n) {c : Nat} (hc : r.g.c = c) (hd : RNo r S n w) (hbg : r.bg = true) (ok : S.Ok) (hsc : S.screen.length ≤ 1099511000000) (hwt : r.wt.length ≤ 1099511000) (hn0 : 0 ≤ n) (hn255 : n ≤ 255) (hn : n = 16) (hlen : S.typed.length = 0) :
    Calls Tryd.prog 39 #[.pointer (some ⟨c, 0, none⟩), .int .u8 n] w (RLinesPost r w (S.act b)) := by
  subst hc
  subst hn
  have HB := Lib.hid hb
  have HG := Lib.hid hbg
  have HD := Lib.hid hd
  clear hb hbg hd
  go_enter Tryd.func39, Tryd.ntmps39
  go_wp2_with fail
  refine HD.out.mono ?_
  rintro e1 w1 ⟨rfl, r1, s1⟩
  clear HD
  obtain ⟨a, cap, hv, hcp, hsl⟩ := r1.typed_form
  obtain ⟨c0, -, -, -, -, -, -, fz⟩ := rblock r1.blk
  rw [hv] at c0
  rw [hlen] at c0
  have hlen2 := Lib.hid hlen
  clear hlen hv hcp hsl
  go_wp2
  go_ret
  have hbn := HB.out
  have hlen := hlen2.out
  have e1 : S.act b = (S, []) := by unfold CS.act; rw [if_neg (by omega), if_neg (by omega), if_neg (by omega), if_neg (by omega), if_neg (by omega), if_neg (by omega), if_neg (by omega), if_neg (by omega)]
  rw [e1]
  exact RLinesPost.nil rfl r1 s1 HG.out rfl

set_option maxRecDepth 10000 in
set_option maxHeartbeats 1000000 in
theorem rone_hand1 (n : Int) (b : UInt8) (hb : (b.toNat : Int) = n) {c : Nat} (hc : r.g.c = c) (hd : RNo r S n w) (hbg : r.bg = true) (ok : S.Ok) (hsc : S.screen.length ≤ 1099511000000) (hwt : r.wt.length ≤ 1099511000) (hn0 : 0 ≤ n) (hn255 : n ≤ 255) (hn : n = 16) (hlen : 0 < S.typed.length) :
    Calls Tryd.prog 39 #[.pointer (some ⟨c, 0, none⟩), .int .u8 n] w (RLinesPost r w (S.act b)) := by
  subst hc
  subst hn
  have HB := Lib.hid hb
  have HG := Lib.hid hbg
  have HD := Lib.hid hd
  clear hb hbg hd
  go_enter Tryd.func39, Tryd.ntmps39
  go_wp2_with fail
  refine HD.out.mono ?_
  rintro e1 w1 ⟨rfl, r1, s1⟩
  clear HD
  obtain ⟨a, cap, hv, hcp, hsl⟩ := r1.typed_form
  obtain ⟨c0, -, -, -, -, -, -, fz⟩ := rblock r1.blk
  rw [hv] at c0
  have hlen2 := Lib.hid hlen
  have hlen3 : (0 : Int) < (S.typed.length : Int) := by omega
  clear hlen hv hcp hsl
  go_wp2_with fail
  refine (rhand_calls [] rfl r1 HG.out ok.typed (by simp) (by omega) ok.chosen0 ok.chosen).mono ?_
  rintro e3 w3 hp
  have hp3 := Lib.hid hp
  obtain ⟨v3, r3, rfl, -⟩ := hp
  go_wp2
  go_ret
  have hlen := hlen2.out
  have hbn := HB.out
  have e1 : S.act b = S.hand [] := by unfold CS.act; rw [if_neg (by omega), if_neg (by omega), if_neg (by omega), if_neg (by omega), if_neg (by omega), if_pos (by omega)]
  rw [e1]
  exact RLinesPost.after s1 rfl hp3.out

set_option maxRecDepth 10000 in
set_option maxHeartbeats 1000000 in
theorem rone_flag1 (n : Int) (b : UInt8) (hb : (b.toNat : Int) = n) {c : Nat} (hc : r.g.c = c) (hd : RNo r S n w) (hbg : r.bg = true) (ok : S.Ok) (hsc : S.screen.length ≤ 1099511000000) (hwt : r.wt.length ≤ 1099511000) (hn0 : 0 ≤ n) (hn255 : n ≤ 255) (hn : n = 1) (hch : 0 < S.chosen) :
    Calls Tryd.prog 39 #[.pointer (some ⟨c, 0, none⟩), .int .u8 n] w (RLinesPost r w (S.act b)) := by
  subst hc
  subst hn
  have HB := Lib.hid hb
  have HG := Lib.hid hbg
  have HD := Lib.hid hd
  clear hb hbg hd
  go_enter Tryd.func39, Tryd.ntmps39
  go_wp2_with fail
  refine HD.out.mono ?_
  rintro e1 w1 ⟨rfl, r1, s1⟩
  clear HD
  obtain ⟨k, hk⟩ : ∃ k : Nat, S.chosen = k := Int.eq_ofNat_of_zero_le ok.chosen0
  have hk99 := ok.chosen
  obtain ⟨-, c1, -, -, -, -, -, fz⟩ := rblock r1.blk
  have cf := rblock_cells r1.blk (4 + k) (by omega)
  rw [rcell_flag k (by omega)] at cf
  rw [if_pos HG.out, hk] at c1
  rw [hk] at hch hk99
  have hk0 : (0 : Int) < (k : Int) := hch
  have hk1 : (k : Int) < 100 := by omega
  have HK := Lib.hid hk
  clear hk hch
  go_wp2
  refine wp_region_plan (aF := ?aF) [21] [(0, 0), (1, 0), (2, 0), (3, 0), (4, 0), (5, 0), (6, 0), (7, 0), (8, 0), (9, 0), (10, 0), (11, 0), (12, 0), (13, 0), (14, 0), (15, 0), (16, 0), (17, 0), (18, 0), (19, 0), (20, 0), (21, 0)] [w1.drew, w1.drew.setCell ⟨r.g.c, 4 + k, none⟩ (.int .i64 (bits .or .i64 (S.flags k) 1))] [?v0, ?v1, ?v2, ?v3, ?v4, ?v5, ?v6, ?v7, ?v8, ?v9, ?v10, ?v11, ?v12, ?v13, ?v14, ?v15, ?v16, ?v17, ?v18, ?v19, ?v20, undef] (by kernel_rfl) (by kernel_rfl) ?hF rfl rfl rfl ?hob ?hend
  case hF => simp only [putAll, Act.put]; go_simp; rfl
  case hob =>
    repeat' (first
      | exact obls_nil
      | (refine obls_cons rfl rfl rfl ?_ ?_)
      | (apply Runs.skip rfl rfl; (focus (go_simp; try exact rfl)); exact rfl)
      | (apply Runs.value rfl; (focus (go_simp; try exact rfl)); exact rfl))
  case hend =>
    go_wp2
    go_ret
    have hbn := HB.out
    have e1 : S.act b = ({ S with flags := upd S.flags k (orI (S.flags k) 1) }, []) := by unfold CS.act; rw [if_neg (by omega), if_neg (by omega), if_neg (by omega), if_neg (by omega), if_neg (by omega), if_neg (by omega), if_pos ⟨by omega, by omega, by rw [HK.out]; exact hk0⟩, HK.out, show flagOf b = 1 from by unfold flagOf; simp [show b.toNat = 1 from by omega]]
    rw [e1]
    obtain ⟨p1, p2⟩ := r1.drew.set_flag k (by omega) (bits .or .i64 (S.flags k) 1)
    exact RLinesPost.nil rfl p1 (s1.drew.trans p2) HG.out rfl

set_option maxRecDepth 10000 in
set_option maxHeartbeats 1000000 in
theorem rone_flag1no (n : Int) (b : UInt8) (hb : (b.toNat : Int) = n) {c : Nat} (hc : r.g.c = c) (hd : RNo r S n w) (hbg : r.bg = true) (ok : S.Ok) (hsc : S.screen.length ≤ 1099511000000) (hwt : r.wt.length ≤ 1099511000) (hn0 : 0 ≤ n) (hn255 : n ≤ 255) (hn : n = 1) (hch : S.chosen = 0) :
    Calls Tryd.prog 39 #[.pointer (some ⟨c, 0, none⟩), .int .u8 n] w (RLinesPost r w (S.act b)) := by
  subst hc
  subst hn
  have HB := Lib.hid hb
  have HG := Lib.hid hbg
  have HD := Lib.hid hd
  clear hb hbg hd
  go_enter Tryd.func39, Tryd.ntmps39
  go_wp2_with fail
  refine HD.out.mono ?_
  rintro e1 w1 ⟨rfl, r1, s1⟩
  clear HD
  obtain ⟨-, c1, -, -, -, -, -, fz⟩ := rblock r1.blk
  rw [if_pos HG.out, hch] at c1
  have HK := Lib.hid hch
  clear hch
  go_wp2
  go_ret
  have hbn := HB.out
  have e1 : S.act b = (S, []) := by unfold CS.act; rw [if_neg (by omega), if_neg (by omega), if_neg (by omega), if_neg (by omega), if_neg (by omega), if_neg (by omega), if_neg (by rw [HK.out]; omega), if_neg (by omega)]
  rw [e1]
  exact RLinesPost.nil rfl r1 s1 HG.out rfl

set_option maxRecDepth 10000 in
set_option maxHeartbeats 1000000 in
theorem rone_flag2 (n : Int) (b : UInt8) (hb : (b.toNat : Int) = n) {c : Nat} (hc : r.g.c = c) (hd : RNo r S n w) (hbg : r.bg = true) (ok : S.Ok) (hsc : S.screen.length ≤ 1099511000000) (hwt : r.wt.length ≤ 1099511000) (hn0 : 0 ≤ n) (hn255 : n ≤ 255) (hn : n = 2) (hch : 0 < S.chosen) :
    Calls Tryd.prog 39 #[.pointer (some ⟨c, 0, none⟩), .int .u8 n] w (RLinesPost r w (S.act b)) := by
  subst hc
  subst hn
  have HB := Lib.hid hb
  have HG := Lib.hid hbg
  have HD := Lib.hid hd
  clear hb hbg hd
  go_enter Tryd.func39, Tryd.ntmps39
  go_wp2_with fail
  refine HD.out.mono ?_
  rintro e1 w1 ⟨rfl, r1, s1⟩
  clear HD
  obtain ⟨k, hk⟩ : ∃ k : Nat, S.chosen = k := Int.eq_ofNat_of_zero_le ok.chosen0
  have hk99 := ok.chosen
  obtain ⟨-, c1, -, -, -, -, -, fz⟩ := rblock r1.blk
  have cf := rblock_cells r1.blk (4 + k) (by omega)
  rw [rcell_flag k (by omega)] at cf
  rw [if_pos HG.out, hk] at c1
  rw [hk] at hch hk99
  have hk0 : (0 : Int) < (k : Int) := hch
  have hk1 : (k : Int) < 100 := by omega
  have HK := Lib.hid hk
  clear hk hch
  go_wp2
  refine wp_region_plan (aF := ?aF) [21] [(0, 0), (1, 0), (2, 0), (3, 0), (4, 0), (5, 0), (6, 0), (7, 0), (8, 0), (9, 0), (10, 0), (11, 0), (12, 0), (13, 0), (14, 0), (15, 0), (16, 0), (17, 0), (18, 0), (19, 0), (20, 0), (21, 0)] [w1.drew, w1.drew.setCell ⟨r.g.c, 4 + k, none⟩ (.int .i64 (bits .or .i64 (S.flags k) 2))] [?v0, ?v1, ?v2, ?v3, ?v4, ?v5, ?v6, ?v7, ?v8, ?v9, ?v10, ?v11, ?v12, ?v13, ?v14, ?v15, ?v16, ?v17, ?v18, ?v19, ?v20, undef] (by kernel_rfl) (by kernel_rfl) ?hF rfl rfl rfl ?hob ?hend
  case hF => simp only [putAll, Act.put]; go_simp; rfl
  case hob =>
    repeat' (first
      | exact obls_nil
      | (refine obls_cons rfl rfl rfl ?_ ?_)
      | (apply Runs.skip rfl rfl; (focus (go_simp; try exact rfl)); exact rfl)
      | (apply Runs.value rfl; (focus (go_simp; try exact rfl)); exact rfl))
  case hend =>
    go_wp2
    go_ret
    have hbn := HB.out
    have e1 : S.act b = ({ S with flags := upd S.flags k (orI (S.flags k) 2) }, []) := by unfold CS.act; rw [if_neg (by omega), if_neg (by omega), if_neg (by omega), if_neg (by omega), if_neg (by omega), if_neg (by omega), if_pos ⟨by omega, by omega, by rw [HK.out]; exact hk0⟩, HK.out, show flagOf b = 2 from by unfold flagOf; simp [show b.toNat = 2 from by omega]]
    rw [e1]
    obtain ⟨p1, p2⟩ := r1.drew.set_flag k (by omega) (bits .or .i64 (S.flags k) 2)
    exact RLinesPost.nil rfl p1 (s1.drew.trans p2) HG.out rfl

set_option maxRecDepth 10000 in
set_option maxHeartbeats 1000000 in
theorem rone_flag2no (n : Int) (b : UInt8) (hb : (b.toNat : Int) = n) {c : Nat} (hc : r.g.c = c) (hd : RNo r S n w) (hbg : r.bg = true) (ok : S.Ok) (hsc : S.screen.length ≤ 1099511000000) (hwt : r.wt.length ≤ 1099511000) (hn0 : 0 ≤ n) (hn255 : n ≤ 255) (hn : n = 2) (hch : S.chosen = 0) :
    Calls Tryd.prog 39 #[.pointer (some ⟨c, 0, none⟩), .int .u8 n] w (RLinesPost r w (S.act b)) := by
  subst hc
  subst hn
  have HB := Lib.hid hb
  have HG := Lib.hid hbg
  have HD := Lib.hid hd
  clear hb hbg hd
  go_enter Tryd.func39, Tryd.ntmps39
  go_wp2_with fail
  refine HD.out.mono ?_
  rintro e1 w1 ⟨rfl, r1, s1⟩
  clear HD
  obtain ⟨-, c1, -, -, -, -, -, fz⟩ := rblock r1.blk
  rw [if_pos HG.out, hch] at c1
  have HK := Lib.hid hch
  clear hch
  go_wp2
  go_ret
  have hbn := HB.out
  have e1 : S.act b = (S, []) := by unfold CS.act; rw [if_neg (by omega), if_neg (by omega), if_neg (by omega), if_neg (by omega), if_neg (by omega), if_neg (by omega), if_neg (by rw [HK.out]; omega), if_neg (by omega)]
  rw [e1]
  exact RLinesPost.nil rfl r1 s1 HG.out rfl

set_option maxRecDepth 10000 in
set_option maxHeartbeats 1000000 in
theorem rone_flag3 (n : Int) (b : UInt8) (hb : (b.toNat : Int) = n) {c : Nat} (hc : r.g.c = c) (hd : RNo r S n w) (hbg : r.bg = true) (ok : S.Ok) (hsc : S.screen.length ≤ 1099511000000) (hwt : r.wt.length ≤ 1099511000) (hn0 : 0 ≤ n) (hn255 : n ≤ 255) (hn : n = 3) (hch : 0 < S.chosen) :
    Calls Tryd.prog 39 #[.pointer (some ⟨c, 0, none⟩), .int .u8 n] w (RLinesPost r w (S.act b)) := by
  subst hc
  subst hn
  have HB := Lib.hid hb
  have HG := Lib.hid hbg
  have HD := Lib.hid hd
  clear hb hbg hd
  go_enter Tryd.func39, Tryd.ntmps39
  go_wp2_with fail
  refine HD.out.mono ?_
  rintro e1 w1 ⟨rfl, r1, s1⟩
  clear HD
  obtain ⟨k, hk⟩ : ∃ k : Nat, S.chosen = k := Int.eq_ofNat_of_zero_le ok.chosen0
  have hk99 := ok.chosen
  obtain ⟨-, c1, -, -, -, -, -, fz⟩ := rblock r1.blk
  have cf := rblock_cells r1.blk (4 + k) (by omega)
  rw [rcell_flag k (by omega)] at cf
  rw [if_pos HG.out, hk] at c1
  rw [hk] at hch hk99
  have hk0 : (0 : Int) < (k : Int) := hch
  have hk1 : (k : Int) < 100 := by omega
  have HK := Lib.hid hk
  clear hk hch
  go_wp2
  refine wp_region_plan (aF := ?aF) [21] [(0, 0), (1, 0), (2, 0), (3, 0), (4, 0), (5, 0), (6, 0), (7, 0), (8, 0), (9, 0), (10, 0), (11, 0), (12, 0), (13, 0), (14, 0), (15, 0), (16, 0), (17, 0), (18, 0), (19, 0), (20, 0), (21, 0)] [w1.drew, w1.drew.setCell ⟨r.g.c, 4 + k, none⟩ (.int .i64 (bits .or .i64 (S.flags k) 4))] [?v0, ?v1, ?v2, ?v3, ?v4, ?v5, ?v6, ?v7, ?v8, ?v9, ?v10, ?v11, ?v12, ?v13, ?v14, ?v15, ?v16, ?v17, ?v18, ?v19, ?v20, undef] (by kernel_rfl) (by kernel_rfl) ?hF rfl rfl rfl ?hob ?hend
  case hF => simp only [putAll, Act.put]; go_simp; rfl
  case hob =>
    repeat' (first
      | exact obls_nil
      | (refine obls_cons rfl rfl rfl ?_ ?_)
      | (apply Runs.skip rfl rfl; (focus (go_simp; try exact rfl)); exact rfl)
      | (apply Runs.value rfl; (focus (go_simp; try exact rfl)); exact rfl))
  case hend =>
    go_wp2
    go_ret
    have hbn := HB.out
    have e1 : S.act b = ({ S with flags := upd S.flags k (orI (S.flags k) 4) }, []) := by unfold CS.act; rw [if_neg (by omega), if_neg (by omega), if_neg (by omega), if_neg (by omega), if_neg (by omega), if_neg (by omega), if_pos ⟨by omega, by omega, by rw [HK.out]; exact hk0⟩, HK.out, show flagOf b = 4 from by unfold flagOf; simp [show b.toNat = 3 from by omega]]
    rw [e1]
    obtain ⟨p1, p2⟩ := r1.drew.set_flag k (by omega) (bits .or .i64 (S.flags k) 4)
    exact RLinesPost.nil rfl p1 (s1.drew.trans p2) HG.out rfl

set_option maxRecDepth 10000 in
set_option maxHeartbeats 1000000 in
theorem rone_flag3no (n : Int) (b : UInt8) (hb : (b.toNat : Int) = n) {c : Nat} (hc : r.g.c = c) (hd : RNo r S n w) (hbg : r.bg = true) (ok : S.Ok) (hsc : S.screen.length ≤ 1099511000000) (hwt : r.wt.length ≤ 1099511000) (hn0 : 0 ≤ n) (hn255 : n ≤ 255) (hn : n = 3) (hch : S.chosen = 0) :
    Calls Tryd.prog 39 #[.pointer (some ⟨c, 0, none⟩), .int .u8 n] w (RLinesPost r w (S.act b)) := by
  subst hc
  subst hn
  have HB := Lib.hid hb
  have HG := Lib.hid hbg
  have HD := Lib.hid hd
  clear hb hbg hd
  go_enter Tryd.func39, Tryd.ntmps39
  go_wp2_with fail
  refine HD.out.mono ?_
  rintro e1 w1 ⟨rfl, r1, s1⟩
  clear HD
  obtain ⟨-, c1, -, -, -, -, -, fz⟩ := rblock r1.blk
  rw [if_pos HG.out, hch] at c1
  have HK := Lib.hid hch
  clear hch
  go_wp2
  go_ret
  have hbn := HB.out
  have e1 : S.act b = (S, []) := by unfold CS.act; rw [if_neg (by omega), if_neg (by omega), if_neg (by omega), if_neg (by omega), if_neg (by omega), if_neg (by omega), if_neg (by rw [HK.out]; omega), if_neg (by omega)]
  rw [e1]
  exact RLinesPost.nil rfl r1 s1 HG.out rfl

set_option maxRecDepth 10000 in
set_option maxHeartbeats 1000000 in
theorem rone_flag4 (n : Int) (b : UInt8) (hb : (b.toNat : Int) = n) {c : Nat} (hc : r.g.c = c) (hd : RNo r S n w) (hbg : r.bg = true) (ok : S.Ok) (hsc : S.screen.length ≤ 1099511000000) (hwt : r.wt.length ≤ 1099511000) (hn0 : 0 ≤ n) (hn255 : n ≤ 255) (hn : n = 4) (hch : 0 < S.chosen) :
    Calls Tryd.prog 39 #[.pointer (some ⟨c, 0, none⟩), .int .u8 n] w (RLinesPost r w (S.act b)) := by
  subst hc
  subst hn
  have HB := Lib.hid hb
  have HG := Lib.hid hbg
  have HD := Lib.hid hd
  clear hb hbg hd
  go_enter Tryd.func39, Tryd.ntmps39
  go_wp2_with fail
  refine HD.out.mono ?_
  rintro e1 w1 ⟨rfl, r1, s1⟩
  clear HD
  obtain ⟨k, hk⟩ : ∃ k : Nat, S.chosen = k := Int.eq_ofNat_of_zero_le ok.chosen0
  have hk99 := ok.chosen
  obtain ⟨-, c1, -, -, -, -, -, fz⟩ := rblock r1.blk
  have cf := rblock_cells r1.blk (4 + k) (by omega)
  rw [rcell_flag k (by omega)] at cf
  rw [if_pos HG.out, hk] at c1
  rw [hk] at hch hk99
  have hk0 : (0 : Int) < (k : Int) := hch
  have hk1 : (k : Int) < 100 := by omega
  have HK := Lib.hid hk
  clear hk hch
  go_wp2
  refine wp_region_plan (aF := ?aF) [21] [(0, 0), (1, 0), (2, 0), (3, 0), (4, 0), (5, 0), (6, 0), (7, 0), (8, 0), (9, 0), (10, 0), (11, 0), (12, 0), (13, 0), (14, 0), (15, 0), (16, 0), (17, 0), (18, 0), (19, 0), (20, 0), (21, 0)] [w1.drew, w1.drew.setCell ⟨r.g.c, 4 + k, none⟩ (.int .i64 (bits .or .i64 (S.flags k) 8))] [?v0, ?v1, ?v2, ?v3, ?v4, ?v5, ?v6, ?v7, ?v8, ?v9, ?v10, ?v11, ?v12, ?v13, ?v14, ?v15, ?v16, ?v17, ?v18, ?v19, ?v20, undef] (by kernel_rfl) (by kernel_rfl) ?hF rfl rfl rfl ?hob ?hend
  case hF => simp only [putAll, Act.put]; go_simp; rfl
  case hob =>
    repeat' (first
      | exact obls_nil
      | (refine obls_cons rfl rfl rfl ?_ ?_)
      | (apply Runs.skip rfl rfl; (focus (go_simp; try exact rfl)); exact rfl)
      | (apply Runs.value rfl; (focus (go_simp; try exact rfl)); exact rfl))
  case hend =>
    go_wp2
    go_ret
    have hbn := HB.out
    have e1 : S.act b = ({ S with flags := upd S.flags k (orI (S.flags k) 8) }, []) := by unfold CS.act; rw [if_neg (by omega), if_neg (by omega), if_neg (by omega), if_neg (by omega), if_neg (by omega), if_neg (by omega), if_pos ⟨by omega, by omega, by rw [HK.out]; exact hk0⟩, HK.out, show flagOf b = 8 from by unfold flagOf; simp [show b.toNat = 4 from by omega]]
    rw [e1]
    obtain ⟨p1, p2⟩ := r1.drew.set_flag k (by omega) (bits .or .i64 (S.flags k) 8)
    exact RLinesPost.nil rfl p1 (s1.drew.trans p2) HG.out rfl

set_option maxRecDepth 10000 in
set_option maxHeartbeats 1000000 in
theorem rone_flag4no (n : Int) (b : UInt8) (hb : (b.toNat : Int) = n) {c : Nat} (hc : r.g.c = c) (hd : RNo r S n w) (hbg : r.bg = true) (ok : S.Ok) (hsc : S.screen.length ≤ 1099511000000) (hwt : r.wt.length ≤ 1099511000) (hn0 : 0 ≤ n) (hn255 : n ≤ 255) (hn : n = 4) (hch : S.chosen = 0) :
    Calls Tryd.prog 39 #[.pointer (some ⟨c, 0, none⟩), .int .u8 n] w (RLinesPost r w (S.act b)) := by
  subst hc
  subst hn
  have HB := Lib.hid hb
  have HG := Lib.hid hbg
  have HD := Lib.hid hd
  clear hb hbg hd
  go_enter Tryd.func39, Tryd.ntmps39
  go_wp2_with fail
  refine HD.out.mono ?_
  rintro e1 w1 ⟨rfl, r1, s1⟩
  clear HD
  obtain ⟨-, c1, -, -, -, -, -, fz⟩ := rblock r1.blk
  rw [if_pos HG.out, hch] at c1
  have HK := Lib.hid hch
  clear hch
  go_wp2
  go_ret
  have hbn := HB.out
  have e1 : S.act b = (S, []) := by unfold CS.act; rw [if_neg (by omega), if_neg (by omega), if_neg (by omega), if_neg (by omega), if_neg (by omega), if_neg (by omega), if_neg (by rw [HK.out]; omega), if_neg (by omega)]
  rw [e1]
  exact RLinesPost.nil rfl r1 s1 HG.out rfl

set_option maxRecDepth 10000 in
set_option maxHeartbeats 1000000 in
theorem rone_choose (n : Int) (b : UInt8) (hb : (b.toNat : Int) = n) {c : Nat} (hc : r.g.c = c) (hd : RNo r S n w) (hbg : r.bg = true) (ok : S.Ok) (hsc : S.screen.length ≤ 1099511000000) (hwt : r.wt.length ≤ 1099511000) (hn0 : 0 ≤ n) (hn255 : n ≤ 255) (hn : n = 20) :
    Calls Tryd.prog 39 #[.pointer (some ⟨c, 0, none⟩), .int .u8 n] w (RLinesPost r w (S.act b)) := by
  subst hc
  subst hn
  have HB := Lib.hid hb
  have HG := Lib.hid hbg
  have HD := Lib.hid hd
  clear hb hbg hd
  go_enter Tryd.func39, Tryd.ntmps39
  go_wp2_with fail
  refine HD.out.mono ?_
  rintro e1 w1 ⟨rfl, r1, s1⟩
  clear HD
  obtain ⟨-, -, c2, -, -, -, -, fz⟩ := rblock r1.blk
  go_wp2
  go_ret
  have hbn := HB.out
  have e1 : S.act b = ({ S with typing := true, digits := 0 }, []) := by unfold CS.act; rw [if_neg (by omega), if_neg (by omega), if_neg (by omega), if_neg (by omega), if_neg (by omega), if_neg (by omega), if_neg (by omega), if_pos (by omega)]
  rw [e1]
  obtain ⟨p1, p2⟩ := r1.set_choose HG.out
  exact RLinesPost.nil rfl p1 (s1.trans p2) HG.out rfl

set_option maxRecDepth 10000 in
set_option maxHeartbeats 1000000 in
theorem rone_zero (n : Int) (b : UInt8) (hb : (b.toNat : Int) = n) {c : Nat} (hc : r.g.c = c) (hd : RNo r S n w) (hbg : r.bg = true) (ok : S.Ok) (hsc : S.screen.length ≤ 1099511000000) (hwt : r.wt.length ≤ 1099511000) (hn0 : 0 ≤ n) (hn255 : n ≤ 255) (hn : n = 0) :
    Calls Tryd.prog 39 #[.pointer (some ⟨c, 0, none⟩), .int .u8 n] w (RLinesPost r w (S.act b)) := by
  subst hc
  subst hn
  have HB := Lib.hid hb
  have HG := Lib.hid hbg
  have HD := Lib.hid hd
  clear hb hbg hd
  go_enter Tryd.func39, Tryd.ntmps39
  go_wp2_with fail
  refine HD.out.mono ?_
  rintro e1 w1 ⟨rfl, r1, s1⟩
  clear HD
  go_wp2
  go_ret
  have hbn := HB.out
  have e1 : S.act b = (S, []) := by unfold CS.act; rw [if_neg (by omega), if_neg (by omega), if_neg (by omega), if_neg (by omega), if_neg (by omega), if_neg (by omega), if_neg (by omega), if_neg (by omega)]
  rw [e1]
  exact RLinesPost.nil rfl r1 s1 HG.out rfl

set_option maxRecDepth 10000 in
set_option maxHeartbeats 1000000 in
theorem rone_high (n : Int) (b : UInt8) (hb : (b.toNat : Int) = n) {c : Nat} (hc : r.g.c = c) (hd : RNo r S n w) (hbg : r.bg = true) (ok : S.Ok) (hsc : S.screen.length ≤ 1099511000000) (hwt : r.wt.length ≤ 1099511000) (hn0 : 0 ≤ n) (hn255 : n ≤ 255) (hn : 128 ≤ n) :
    Calls Tryd.prog 39 #[.pointer (some ⟨c, 0, none⟩), .int .u8 n] w (RLinesPost r w (S.act b)) := by
  subst hc
  have HB := Lib.hid hb
  have HG := Lib.hid hbg
  have HD := Lib.hid hd
  clear hb hbg hd
  have q1 : (n == 10) = false := by simp; omega
  have q2 : (n == 127) = false := by simp; omega
  have q3 : (n == 21) = false := by simp; omega
  have q4 : (n == 18) = false := by simp; omega
  have q5 : (n == 16) = false := by simp; omega
  have q6 : (n == 20) = false := by simp; omega
  go_enter Tryd.func39, Tryd.ntmps39
  go_wp2_with fail
  refine HD.out.mono ?_
  rintro e1 w1 ⟨rfl, r1, s1⟩
  clear HD
  go_wp2
  go_ret
  have hbn := HB.out
  have e1 : S.act b = (S, []) := by unfold CS.act; rw [if_neg (by omega), if_neg (by omega), if_neg (by omega), if_neg (by omega), if_neg (by omega), if_neg (by omega), if_neg (by omega), if_neg (by omega)]
  rw [e1]
  exact RLinesPost.nil rfl r1 s1 HG.out rfl

set_option maxRecDepth 10000 in
set_option maxHeartbeats 1000000 in
theorem rone_low (n : Int) (b : UInt8) (hb : (b.toNat : Int) = n) {c : Nat} (hc : r.g.c = c) (hd : RNo r S n w) (hbg : r.bg = true) (ok : S.Ok) (hsc : S.screen.length ≤ 1099511000000) (hwt : r.wt.length ≤ 1099511000) (hn0 : 0 ≤ n) (hn255 : n ≤ 255) (h1 : 5 ≤ n) (h2 : n ≤ 31) (h10 : n ≠ 10) (h21 : n ≠ 21) (h18 : n ≠ 18) (h16 : n ≠ 16) (h20 : n ≠ 20) :
    Calls Tryd.prog 39 #[.pointer (some ⟨c, 0, none⟩), .int .u8 n] w (RLinesPost r w (S.act b)) := by
  subst hc
  have HB := Lib.hid hb
  have HG := Lib.hid hbg
  have HD := Lib.hid hd
  clear hb hbg hd
  have q1 : (n == 10) = false := by simpa using h10
  have q2 : (n == 127) = false := by simp; omega
  have q3 : (n == 21) = false := by simpa using h21
  have q4 : (n == 18) = false := by simpa using h18
  have q5 : (n == 16) = false := by simpa using h16
  have q6 : (n == 20) = false := by simpa using h20
  go_enter Tryd.func39, Tryd.ntmps39
  go_wp2_with fail
  refine HD.out.mono ?_
  rintro e1 w1 ⟨rfl, r1, s1⟩
  clear HD
  go_wp2
  go_ret
  have hbn := HB.out
  have e1 : S.act b = (S, []) := by unfold CS.act; rw [if_neg (by omega), if_neg (by omega), if_neg (by omega), if_neg (by omega), if_neg (by omega), if_neg (by omega), if_neg (by omega), if_neg (by omega)]
  rw [e1]
  exact RLinesPost.nil rfl r1 s1 HG.out rfl
end
end Go.Con
