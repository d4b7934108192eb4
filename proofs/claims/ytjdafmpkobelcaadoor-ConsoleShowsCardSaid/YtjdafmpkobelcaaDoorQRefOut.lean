/-
  The reference's number, goes, Flush, Flags, Screen, Chosen, Typed, walked.
-/
import Derived.Deep.LoopGhost
import Derived.Deep.CutRange
import Derived.Test.YtjdafmpkobelcaaDoorQRefOutRep
import Derived.Test.YtjdafmpkobelcaaDoorQConPlainB
set_option linter.unusedVariables false

namespace Go.Con
open Go.Own Go.RowKit Go.Proofs

theorem dig_u8 (m : Nat) (h : m < 10) : IntKind.u8.wrap (48 + (m : Int)) = 48 + (m : Int) ∧ ((UInt8.ofNat (48 + m)).toNat : Int) = 48 + m := by
  have : ∀ m : Nat, m < 10 → IntKind.u8.wrap (48 + (m : Int)) = 48 + (m : Int) := by decide
  refine ⟨this m h, ?_⟩
  rw [UInt8.toNat_ofNat_of_lt' (by simp [UInt8.size]; omega)]; omega

theorem number_one (n : Nat) (h : n < 10) (w : World) : Calls Tryd.prog 46 #[.int .i64 n] w (BytesPost w (numB n)) := by
  have h1 : (n : Int) < 10 := by omega
  have h2 := (dig_u8 n h).1
  go_enter Tryd.func46, Tryd.ntmps46
  go_wp2
  go_ret
  have hb : bcells (numB n) = [.int .u8 (48 + (n : Int))] := by
    unfold numB
    rw [if_pos h]
    simp only [bcells, List.map_cons, List.map_nil, (dig_u8 n h).2]
  refine ⟨_, rfl, ?_, fun b hb => ?_, (Turn.refl _ _).alloc _⟩
  · rw [hb]; exact SliceAt.made (heap_alloc_new w _) rfl (by unfold maxLen; omega)
  · have e1 : w.heap.size = b := by simpa [Value.ownBlock] using hb
    omega

set_option maxHeartbeats 1000000 in
theorem number_calls (n : Nat) (h : n < 100) (w : World) : Calls Tryd.prog 46 #[.int .i64 n] w (BytesPost w (numB n)) := by
  by_cases h1 : n < 10
  · exact number_one n h1 w
  · have q1 : ¬ (n : Int) < 10 := by omega
    obtain ⟨a, ha⟩ : ∃ a, n / 10 = a := ⟨_, rfl⟩
    obtain ⟨b, hb⟩ : ∃ b, n % 10 = b := ⟨_, rfl⟩
    have q2 : (n : Int) / 10 = (a : Int) := by omega
    have q3 : (n : Int) % 10 = (b : Int) := by omega
    have q4 : (n : Int).tdiv 10 = (a : Int) := by rw [Int.tdiv_eq_ediv_of_nonneg (by omega)]; exact q2
    have q5 : (n : Int).tmod 10 = (b : Int) := by rw [Int.tmod_eq_emod_of_nonneg (by omega)]; exact q3
    have hb10 : b < 10 := by omega
    have d := (dig_u8 b hb10).1
    have HN := Lib.hid (number_one a (by omega) w)
    have hnb : numB n = numB a ++ [UInt8.ofNat (48 + b)] := by
      unfold numB
      rw [if_neg h1, if_pos (show a < 10 by omega), ha, hb]; rfl
    have HB := Lib.hid (And.intro hnb hb10)
    clear ha hb hnb
    go_enter Tryd.func46, Tryd.ntmps46
    go_wp2_with fail
    refine HN.out.mono ?_
    rintro e1 w1 ⟨v, rfl, hB⟩
    obtain ⟨va, vn, vc, rfl, hvl, -⟩ := hB.at_.form
    have hA := hB.alloc (.cells #[.int .u8 (48 + (b : Int))] 5)
    have hl := numB_length a
    have HA := Lib.hid (And.intro hA hl)
    clear hB hA hl hvl
    go_wp2_with (
      at_builtin
      refine wpList_append _ rfl _ _ 26 26 rfl 5 1 1 (.int .u8 0) Tryd.underlying26 (.inr ⟨_, Tryd.underlying26⟩) elemU8 (.slice va vn vc) _ rfl HA.out.1.at_ _ _ _ rfl (Src.one rfl (heap_alloc_new w1 _)) (by intro u hu; simp at hu; subst hu; rfl) (by have := HA.out.2; simp [bcells_length]; omega) (by have := HA.out.2; simp [bcells_length]; omega) ?_
      intro v' w2 hv' ht hw hn
      have FIN := Lib.hid (HA.out.1.grown ht hv' hw)
      clear hv' ht hw hn)
    go_ret
    refine ⟨v', rfl, ?_⟩
    have e : bcells (numB n) = bcells (numB a) ++ [.int .u8 (48 + (b : Int))] := by
      rw [HB.out.1, bcells_append]
      simp only [bcells, List.map_cons, List.map_nil, (dig_u8 b HB.out.2).2]
    rw [e]
    exact FIN.out

section
variable {r : RG} {S : CS} {w w' : World}

/-- The reference's console stands at R; it is the same one. -/
def GI (r : RG) (R : CS) (w wx : World) : Prop := ∃ r1, RRep r1 R wx ∧ Step r.g r1.g w wx ∧ r1.bg = r.bg ∧ r1.wt = r.wt
def GPost (r : RG) (R : CS) (w : World) (v : Value) (e : Ending) (w' : World) : Prop := e = .returned v ∧ GI r R w w'

theorem Src.made1 (w : World) (x : UInt8) (n : Int) (h : (x.toNat : Int) = n) : Src (w.alloc (.cells #[.int .u8 n] 5)) 1 (.slice (some ⟨w.heap.size, 0, none⟩) 1 1) 1 (bcells [x]) := by
  have sm := SliceAt.made (w := w.alloc (.cells #[.int .u8 n] 5)) (sz := 1) (n := 1) (heap_alloc_new w _) rfl (by unfold maxLen; omega)
  have e : bcells [x] = (#[Value.int .u8 n] : Array Value).toList := by simp [bcells, h]
  rw [e]
  exact Src.of_slice sm
theorem Src.made2 (w : World) (x y : UInt8) (n m : Int) (h : (x.toNat : Int) = n) (h2 : (y.toNat : Int) = m) : Src (w.alloc (.cells #[.int .u8 n, .int .u8 m] 5)) 1 (.slice (some ⟨w.heap.size, 0, none⟩) 2 2) 2 (bcells [x, y]) := by
  have sm := SliceAt.made (w := w.alloc (.cells #[.int .u8 n, .int .u8 m] 5)) (sz := 1) (n := 2) (heap_alloc_new w _) rfl (by unfold maxLen; omega)
  have e : bcells [x, y] = (#[Value.int .u8 n, Value.int .u8 m] : Array Value).toList := by simp [bcells, h, h2]
  rw [e]
  exact Src.of_slice sm

def pre1 (S : CS) : Bytes := if S.typed = [] then [] else [10]
def pre2 (S : CS) (k : Nat) : Bytes := if (k : Int) = S.last then [] else numB k ++ [58, 32]

theorem GI.echo {r r1 : RG} {R : CS} {w w1 w2 : World} (s1 : Step r.g r1.g w w1) (hb : r1.bg = r.bg) (ht : r1.wt = r.wt) {s : Bytes} (h : ∃ r', RRep r' (R.echo s) w2 ∧ Step r1.g r'.g w1 w2 ∧ (r'.bg = r1.bg ∧ r'.wt = r1.wt)) : GI r (R.echo s) w w2 := by
  obtain ⟨r2, a, b, c, d⟩ := h
  exact ⟨r2, a, s1.trans b, c.trans hb, d.trans ht⟩

set_option maxRecDepth 10000 in
set_option maxHeartbeats 2000000 in
theorem goes_calls (k : Nat) {c : Nat} (hc : r.g.c = c) (h : RRep r S w) (hb : r.bg = true) (ok : S.Ok) (hsc : S.screen.length ≤ 1099511000000) (h1 : 1 ≤ k) (h2 : k ≤ 99) :
    Calls Tryd.prog 40 #[.pointer (some ⟨c, 0, none⟩), .int .i64 k] w (GPost r (S.goes k) w (.tuple #[])) := by
  subst hc
  obtain ⟨c0, -, -, -, c4, -, -, fz⟩ := rblock h.blk
  obtain ⟨a, cap, hv, hcp, hs⟩ := h.typed_form
  rw [hv] at c0
  rw [if_pos hb] at c4
  have hk0 : (0 : Int) ≤ (k : Int) := by omega
  have hk1 : (k : Int) < 100 := by omega
  have hp2 : (pre2 S k).length ≤ 4 := by
    have := numB_length k
    unfold pre2; split
    · simp
    · simp; omega
  have hp1 : (pre1 S).length ≤ 1 := by unfold pre1; split <;> simp
  have H := Lib.hid (And.intro h (And.intro hb (And.intro ok hv)))
  have HP := Lib.hid (And.intro hp1 hp2)
  clear hv hb h hcp hs hp1 hp2
  go_enter Tryd.func40, Tryd.ntmps40
  (refine wp_seq_k ?_; intro _ _)
  go_cut [] from 4 to 12 (fun wx => GI r (S.echo (pre1 S)) w wx)
  case first =>
    by_cases ht : S.typed = []
    · have q : decide ((0 : Int) < (S.typed.length : Int)) = false := by simp [ht]
      have q' : decide (0 < S.typed.length) = false := by simp [ht]
      have HT := Lib.hid ht
      clear ht
      go_wp2_with fail
      go_meet
      case rel =>
        refine ⟨r, ?_, Step.refl _ _, rfl, rfl⟩
        have e : S.echo (pre1 S) = S := by unfold pre1 CS.echo; rw [if_pos HT.out]; simp
        rw [e]; exact H.out.1
    · have hpos := List.length_pos_iff.2 ht
      have q : decide ((0 : Int) < (S.typed.length : Int)) = true := decide_eq_true (by omega)
      have q' : decide (0 < S.typed.length) = true := decide_eq_true hpos
      have e : pre1 S = [10] := by unfold pre1; rw [if_neg ht]
      have HE := Lib.hid e
      clear ht e
      go_wp2_with fail
      refine (recho_calls [10] rfl (H.out.1.alloc (.cells #[.int .u8 10] 5)) _ _ _ (Src.made1 w 10 10 rfl) (by simp; omega)).mono ?_
      rintro e1 w1 ⟨rfl, hr⟩
      have HR := Lib.hid (GI.echo (r := r) (R := S) ((Step.refl r.g w).alloc (.cells #[.int .u8 10] 5)) rfl rfl hr)
      clear hr
      go_wp2_with fail
      go_meet
      case rel => rw [HE.out]; exact HR.out
  case rest =>
    obtain ⟨r1, R1, s1, b1, t1⟩ := hcut
    obtain ⟨S1, hS1⟩ : ∃ x, S.echo (pre1 S) = x := ⟨_, rfl⟩
    rw [hS1] at R1
    obtain ⟨-, -, -, -, d4, -, -, -⟩ := rblock R1.blk
    rw [s1.c, if_pos (b1.trans H.out.2.1)] at d4
    have hl1 : S1.last = S.last := by rw [← hS1]; rfl
    have hc1 : S1.screen.length ≤ 1099511000001 := by rw [← hS1]; have := HP.out.1; show (S.screen ++ pre1 S).length ≤ _; rw [List.length_append]; omega
    rw [hl1] at d4
    have H1 := Lib.hid (And.intro R1 (And.intro s1 (And.intro b1 (And.intro t1 hS1))))
    clear R1 s1 b1 t1 hS1 hl1 c0 c4 fz
    go_step
    (refine wp_seq_k ?_; intro _ _)
    go_cut [] from 13 to 25 (fun wx => GI r (S1.echo (pre2 S k)) w wx)
    case first =>
      by_cases ht : (k : Int) = S.last
      · have e : S1.echo (pre2 S k) = S1 := by unfold pre2 CS.echo; rw [if_pos ht]; simp
        have HE := Lib.hid e
        rw [← ht] at d4
        clear ht e
        go_wp2_with fail
        go_meet
        case rel => rw [HE.out]; exact ⟨r1, H1.out.1, H1.out.2.1, H1.out.2.2.1, H1.out.2.2.2.1⟩
      · have q : ((k : Int) != S.last) = true := by simp [ht]
        have q2 : ((k : Int) == S.last) = false := by simp [ht]
        have e : S1.echo (pre2 S k) = (S1.echo (numB k)).echo [58, 32] := by unfold pre2 CS.echo; rw [if_neg ht]; simp
        have HE := Lib.hid e
        have hnl := numB_length k
        clear ht e
        go_wp2_with fail
        refine (number_calls k (by omega) wc).mono ?_
        rintro e2 w2 ⟨v, rfl, hB⟩
        obtain ⟨va, vn, vc, rfl, hvl, -⟩ := hB.at_.form
        rw [bcells_length, Nat.mul_one] at hvl
        subst hvl
        have R2 := H1.out.1.keep hB.old (fun k hk hh => absurd hh (by omega))
        have HS := Lib.hid (Src.of_slice hB.at_)
        have s2 : Step r.g r1.g w w2 := H1.out.2.1.trans ⟨hB.old.mono (fun k hk hh => absurd hh (by omega)), fun _ _ => rfl, rfl⟩
        have H2 := Lib.hid (And.intro R2 s2)
        clear hB R2 s2
        go_wp2_with fail
        refine (recho_calls (numB k) H1.out.2.1.c H2.out.1 _ _ _ HS.out (by omega)).mono ?_
        rintro e3 w3 ⟨rfl, hr⟩
        have HR := Lib.hid (GI.echo (r := r) (R := S1) H2.out.2 H1.out.2.2.1 H1.out.2.2.2.1 hr)
        clear hr
        obtain ⟨r3, R3, s3, b3, t3⟩ := HR.out
        have H3 := Lib.hid (And.intro R3 (And.intro s3 (And.intro b3 t3)))
        clear R3 s3 b3 t3
        go_wp2_with fail
        refine (recho_calls [58, 32] H3.out.2.1.c (H3.out.1.alloc (.cells #[.int .u8 58, .int .u8 32] 5)) _ _ _ (Src.made2 w3 58 32 58 32 rfl rfl) (by show (S1.screen ++ numB k).length + _ ≤ _; rw [List.length_append]; simp; omega)).mono ?_
        rintro e4 w4 ⟨rfl, hr⟩
        have HR4 := Lib.hid (GI.echo (r := r) (R := S1.echo (numB k)) (H3.out.2.1.alloc (.cells #[.int .u8 58, .int .u8 32] 5)) H3.out.2.2.1 H3.out.2.2.2 hr)
        clear hr
        go_wp2_with fail
        go_meet
        case rel => rw [HE.out]; exact HR4.out
    case rest =>
      obtain ⟨r2, R2, s2, b2, t2⟩ := hcut
      obtain ⟨S2, hS2⟩ : ∃ x, S1.echo (pre2 S k) = x := ⟨_, rfl⟩
      rw [hS2] at R2
      have e2 : S2.out = S.out ∧ S2.typed = S.typed := by rw [← hS2, ← H1.out.2.2.2.2]; exact ⟨rfl, rfl⟩
      have hc2 : S2.screen.length ≤ 1099511000005 := by rw [← hS2]; have := HP.out.2; show (S1.screen ++ pre2 S k).length ≤ _; rw [List.length_append]; omega
      have co := rblock_cells R2.blk (104 + k) (by omega)
      rw [rcell_own k (by omega), s2.c] at co
      obtain ⟨oa, on, oc, hov, hol, -⟩ := (R2.own k).1.form
      rw [bcells_length, Nat.mul_one] at hol
      subst hol
      have hsrc := (R2.own k).1
      rw [hov] at co hsrc
      have HS := Lib.hid (Src.of_slice hsrc)
      have ho80 : (S2.out k).length ≤ 80 := by rw [e2.1]; exact H.out.2.2.1.out k
      have H2 := Lib.hid (And.intro R2 (And.intro s2 (And.intro b2 (And.intro t2 (And.intro hS2 e2)))))
      clear R2 s2 b2 t2 hS2 e2 hov hsrc d4
      go_upto_region 6 with (
        go_at_call 43
        refine (recho_calls (S2.out k) H2.out.2.1.c H2.out.1 _ _ _ HS.out (by omega)).mono ?_
        rintro e3 w3 ⟨rfl, hr⟩
        have HR3 := Lib.hid (GI.echo (r := r) (R := S2) H2.out.2.1 H2.out.2.2.1 H2.out.2.2.2.1 hr)
        clear hr co)
      obtain ⟨r3, R3, s3, b3, t3⟩ := HR3.out
      obtain ⟨S3, hS3⟩ : ∃ x, S2.echo (S2.out k) = x := ⟨_, rfl⟩
      rw [hS3] at R3
      have hc3 : S3.screen.length ≤ 1099511000085 := by rw [← hS3]; show (S2.screen ++ S2.out k).length ≤ _; rw [List.length_append]; omega
      have H3 := Lib.hid (And.intro R3 (And.intro s3 (And.intro b3 (And.intro t3 hS3))))
      clear R3 s3 b3 t3 hS3 HR3
      go_upto_region 7 with (
        go_at_call 43
        refine (recho_calls [10] H3.out.2.1.c (H3.out.1.alloc (.cells #[.int .u8 10] 5)) _ _ _ (Src.made1 w3 10 10 rfl) (by simp; omega)).mono ?_
        rintro e4 w4 ⟨rfl, hr⟩
        have HR4 := Lib.hid (GI.echo (r := r) (R := S3) (H3.out.2.1.alloc (.cells #[.int .u8 10] 5)) H3.out.2.2.1 H3.out.2.2.2.1 hr)
        clear hr)
      obtain ⟨r4, R4, s4, b4, t4⟩ := HR4.out
      obtain ⟨S4, hS4⟩ : ∃ x, S3.echo [10] = x := ⟨_, rfl⟩
      rw [hS4] at R4
      have hc4 : S4.screen.length ≤ 1099511000086 := by rw [← hS4]; show (S3.screen ++ [10]).length ≤ _; rw [List.length_append]; simp; omega
      have e4 : S4.typed = S.typed ∧ S4.out = S.out := by rw [← hS4, ← H3.out.2.2.2.2]; exact ⟨H2.out.2.2.2.2.2.2, H2.out.2.2.2.2.2.1⟩
      obtain ⟨f0, -⟩ := rblock R4.blk
      rw [s4.c] at f0
      obtain ⟨ta, tcap, htv, -, hts⟩ := R4.typed_form
      rw [htv] at f0
      have ht80 : S4.typed.length ≤ 80 := by rw [e4.1]; exact H.out.2.2.1.typed
      have HT := Lib.hid (Src.of_slice hts)
      have H4 := Lib.hid (And.intro R4 (And.intro s4 (And.intro b4 (And.intro t4 (And.intro hS4 e4)))))
      clear R4 s4 b4 t4 hS4 HR4 htv hts e4
      go_upto_region 8 with (
        go_at_call 43
        refine (recho_calls S4.typed H4.out.2.1.c H4.out.1 _ _ _ HT.out (by omega)).mono ?_
        rintro e5 w5 ⟨rfl, hr⟩
        have HR5 := Lib.hid (GI.echo (r := r) (R := S4) H4.out.2.1 H4.out.2.2.1 H4.out.2.2.2.1 hr)
        clear hr f0)
      obtain ⟨r5, R5, s5, b5, t5⟩ := HR5.out
      obtain ⟨S5, hS5⟩ : ∃ x, S4.echo S4.typed = x := ⟨_, rfl⟩
      rw [hS5] at R5
      have co := rblock_cells R5.blk (104 + k) (by omega)
      obtain ⟨-, -, -, -, g4, -, -, gz⟩ := rblock R5.blk
      have R6 := R5.nil_own k (by omega)
      have R7 := R6.1.set_last (b5.trans H.out.2.1) k
      have hcc : (r5.setOv k nilSlice).g.c = r.g.c := s5.c
      have s7 := s5.trans (R6.2.trans R7.2)
      have r7 := R7.1
      rw [hcc, s5.c] at s7 r7
      rw [s5.c] at co g4 gz
      rw [rcell_own k (by omega)] at co
      have H5 := Lib.hid (And.intro r7 (And.intro s7 (And.intro b5 (And.intro t5 hS5))))
      clear R5 s5 b5 t5 hS5 HR5 R6 R7 s7 r7
      go_wp2_with fail
      go_end0
      refine ⟨rfl, _, ?_, H5.out.2.1, H5.out.2.2.1, H5.out.2.2.2.1⟩
      have hfin : ({ S5 with out := upd S5.out (k : Int) [], last := (k : Int) } : CS) = S.goes k := by
        have h5 := H5.out.2.2.2.2
        have h4 := H4.out.2.2.2.2.1
        have h3 := H3.out.2.2.2.2
        have h2 := H2.out.2.2.2.2.1
        have h1 := H1.out.2.2.2.2
        rw [← h5, ← h4, ← h3, ← h2, ← h1]
        simp only [CS.echo, CS.goes, CS.line, CS.ahead, pre1, pre2, List.append_assoc]
      rw [← hfin]
      exact H5.out.1
end
end Go.Con
