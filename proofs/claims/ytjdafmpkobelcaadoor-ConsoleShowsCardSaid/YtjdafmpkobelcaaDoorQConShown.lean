/-
  The law's shown, walked: the lines of a task are read back from the screen.
-/
import Derived.Deep.LoopGhost
import Derived.Deep.CutRange
import Derived.Deep.CutBlock
import Derived.Test.YtjdafmpkobelcaaDoorQConShowsPure
import Derived.Test.YtjdafmpkobelcaaDoorQConPlainB
set_option linter.unusedVariables false

namespace Go.Con
open Go.Own Go.RowKit Go.Proofs

theorem own_ne {w : World} {e1 e2 : TypeId} {s1 s2 : Nat} {v1 v2 : Value} {x1 x2 : List Value} (h1 : SliceAt w e1 s1 v1 x1) (h2 : SliceAt w e2 s2 v2 x2) (he : e1 ≠ e2) : ∀ b, v1.ownBlock = some b → v2.ownBlock ≠ some b := by
  rintro b hb hb2
  rcases h1 with ⟨rfl, -⟩ | ⟨g, o, n, c, cur, rfl, hg, -⟩
  · simp [Value.ownBlock] at hb
  · rcases h2 with ⟨rfl, -⟩ | ⟨g', o', n', c', cur', rfl, hg', -⟩
    · simp [Value.ownBlock] at hb2
    · simp [Value.ownBlock] at hb hb2
      subst hb
      subst hb2
      rw [hg] at hg'
      cases hg'
      exact he rfl

theorem digs_ge (l : Bytes) : ∀ n k, k ≤ (digs n k l).2 := by
  induction l with
  | nil => intro n k; exact Nat.le_refl _
  | cons x r ih =>
    intro n k
    unfold digs
    split
    · have := ih (n * 10 + (x.toNat - 48)) (k + 1); omega
    · exact Nat.le_refl _
theorem digs_le (l : Bytes) : ∀ n k, (digs n k l).2 ≤ k + l.length := by
  induction l with
  | nil => intro n k; simp [digs]
  | cons x r ih =>
    intro n k
    unfold digs
    split
    · have := ih (n * 10 + (x.toNat - 48)) (k + 1); simp; omega
    · simp

theorem digs_cons (n k : Nat) (x : UInt8) (r : Bytes) : digs n k (x :: r) = if 48 ≤ x.toNat ∧ x.toNat ≤ 57 then digs (n * 10 + (x.toNat - 48)) (k + 1) r else (n, k) := rfl
/-- What the loop over the digits ahead holds. -/
def DI (m : Bytes) (j n : Nat) : Prop := j ≤ m.length ∧ digs n j (m.drop j) = digs 0 0 m ∧ n ≤ 99 ∧ (j ≤ 1 → n ≤ 9) ∧ (j = 0 → n = 0)
theorem DI.start (m : Bytes) : DI m 0 0 := ⟨Nat.zero_le _, rfl, by omega, by omega, fun _ => rfl⟩
theorem DI.more {m : Bytes} {j n : Nat} (h : DI m j n) (hm : (digs 0 0 m).2 ≤ 2) {x : UInt8} (hx : m[j]? = some x) (h1 : 48 ≤ x.toNat) (h2 : x.toNat ≤ 57) : DI m (j + 1) (n * 10 + (x.toNat - 48)) ∧ n ≤ 9 := by
  obtain ⟨a, b, c, d, e⟩ := h
  have hj : j < m.length := (List.getElem?_eq_some_iff.1 hx).1
  have hg : m[j] = x := (List.getElem?_eq_some_iff.1 hx).2
  rw [List.drop_eq_getElem_cons hj, hg, digs_cons, if_pos ⟨h1, h2⟩] at b
  have h3 := digs_ge (m.drop (j + 1)) (n * 10 + (x.toNat - 48)) (j + 1)
  rw [b] at h3
  have hn9 : n ≤ 9 := d (by omega)
  refine ⟨⟨hj, b, by omega, fun q => ?_, fun q => by omega⟩, hn9⟩
  have h0 := e (by omega)
  omega
theorem DI.done {m : Bytes} {j n : Nat} (h : DI m j n) (hx : ∀ x, m[j]? = some x → ¬ (48 ≤ x.toNat ∧ x.toNat ≤ 57)) : digs 0 0 m = (n, j) := by
  rw [← h.2.1]
  rcases Nat.lt_or_ge j m.length with hj | hj
  · rw [List.drop_eq_getElem_cons hj]
    unfold digs
    rw [if_neg (hx _ (List.getElem?_eq_getElem hj))]
  · rw [List.drop_of_length_le hj]; rfl

section
variable {w w' : World}

def ShownPost (w : World) (out : List Bytes) (e : Ending) (w' : World) : Prop := ∃ v, e = .returned v ∧ Built w 9 1 v (scells out) w'

/-- The loop's state. -/
def ShI (w : World) (s : Sh) (ov ow lv : Value) (wr : World) : Prop := ow = .int .i64 s.own ∧ Built w 5 1 lv (bcells s.line) wr ∧ Built w 9 1 ov (scells s.out) wr

set_option maxRecDepth 10000 in
set_option maxHeartbeats 4000000 in
theorem shown_calls (l : Bytes) (a : Option Addr) (cap : Nat) (task : Int) (hin : BCells w a l) (hl : l.length ≤ 1000000) (hg : Gd task ⟨1, [], []⟩ l) :
    Calls Tryd.prog 12 #[.slice a l.length cap, .int .i64 task] w (ShownPost w ((⟨1, [], []⟩ : Sh).run task l).out) := by
  have HI := Lib.hid (And.intro hin hg)
  clear hin hg
  go_enter Tryd.func12, Tryd.ntmps12
  go_wp2_with fail
  go_loopg [5, 6, 7, 8] (l.length) (fun gk ov ow lv iv wr => ∃ i : Nat, gk + i = l.length ∧ iv = .int .i64 i ∧ ShI w ((⟨1, [], []⟩ : Sh).run task (l.take i)) ov ow lv wr)
  case atStart => exact ⟨0, rfl, rfl, rfl, Built.nil _ _ _, Built.nil _ _ _⟩
  case round =>
    obtain ⟨i, hk, rfl, rfl, hL, hO⟩ := hrel
    obtain ⟨s, hs⟩ : ∃ s, (⟨1, [], []⟩ : Sh).run task (l.take i) = s := ⟨_, rfl⟩
    rw [hs] at hL hO ⊢
    have hll : s.line.length ≤ 1000000 ∧ s.out.length ≤ 1000000 := by
      have h1 := Sh.line_len task (l.take i) ⟨1, [], []⟩
      have h2 := Sh.out_len task (l.take i) ⟨1, [], []⟩
      rw [hs] at h1 h2
      simp at h1 h2
      omega
    by_cases hlt : i < l.length
    · obtain ⟨b, off, rfl, hc⟩ := HI.out.1.resolve_left (fun e => by rw [e] at hlt; simp at hlt)
      have hb := World.block_lt_of_cell? w _ (hc i hlt)
      have hcw : wr.cell? ⟨b, off + i, none⟩ = some (.int .u8 (l[i].toNat : Int)) := by
        rw [hL.old.cell (p := ⟨b, off + i, none⟩) (fun hh => by have h5 : b < w.heap.size := hb; have h6 : w.heap.size ≤ b := hh; omega) hb]; exact hc i hlt
      have hx : l[i]? = some l[i] := List.getElem?_eq_getElem hlt
      have hgd := Gd.at_ l HI.out.2 i _ hx
      rw [hs] at hgd
      have hst : (⟨1, [], []⟩ : Sh).run task (l.take (i + 1)) = s.step task l[i] := by
        rw [List.take_add_one, hx, Sh.run_append, hs]; rfl
      generalize l[i] = x at *
      obtain ⟨la, ln, lc, rfl, hln, hlc, hcm, -⟩ := hL.at_.form
      rw [bcells_length, Nat.mul_one] at hln
      obtain ⟨oa, on, oc, rfl, hon, -⟩ := hO.at_.form
      rw [scells_length, Nat.mul_one] at hon
      have hi0 : (0 : Int) ≤ (i : Int) := by omega
      have hi1 : (i : Int) < (l.length : Int) := by omega
      have HST := Lib.hid hst
      have HB := Lib.hid (And.intro hL (And.intro hO (And.intro hll (And.intro hgd (And.intro hln hon)))))
      clear hc hb hx hst hL hO hll hgd hs hln hon
      by_cases h10 : x.toNat = 10
      · have q1 : ((x.toNat : Int) != 10) = false := by simp [h10]
        have hd := HB.out.2.2.2.1 h10
        have HX := Lib.hid h10
        have hd2 : (digs 0 0 s.line).2 ≤ 2 := by
          rcases hd with q | q
          · omega
          · exact q.2
        have HD := Lib.hid (And.intro hd hd2)
        obtain ⟨n', k', hdg⟩ : ∃ n' k', digs 0 0 s.line = (n', k') := ⟨_, _, rfl⟩
        have HDG := Lib.hid hdg
        generalize hG : gk = G at *
        clear hG hd hd2 h10 hdg
        go_upto_block 2 with fail
        go_cut [9, 10] from 29 to 57 (fun nv kv wx => nv = .int .i64 n' ∧ kv = .int .i64 k' ∧ wx = wr)
        case first =>
          go_wp2_with fail
          go_loopg [9, 10] (ln) (fun gk nv kv wx => ∃ j n : Nat, gk + j = ln ∧ kv = .int .i64 j ∧ nv = .int .i64 n ∧ DI s.line j n ∧ wx = wr)
          case atStart => exact ⟨0, 0, rfl, rfl, rfl, DI.start _, rfl⟩
          case round =>
            obtain ⟨j, n, hj, rfl, rfl, hdi, hwx⟩ := hrel
            rw [hwx]
            have HDI := Lib.hid hdi
            have hn99 := hdi.2.2.1
            have hlen : s.line.length = ln := HB.out.2.2.2.2.1
            have hln6 : ln ≤ 1000000 := by have := HB.out.2.2.1.1; omega
            clear hwx hdi
            by_cases hjl : j < ln
            · obtain ⟨y, hy⟩ : ∃ y, s.line[j]? = some y := ⟨_, List.getElem?_eq_getElem (by omega)⟩
              obtain ⟨lb, lo, rfl⟩ := HB.out.1.at_.addr (by omega)
              have hc := HB.out.1.at_.cells j (.int .u8 (y.toNat : Int)) (by unfold bcells; rw [List.getElem?_map, hy]; rfl)
              have hj0 : (0 : Int) ≤ (j : Int) := by omega
              have hj1 : (j : Int) < (ln : Int) := by omega
              have HY := Lib.hid hy
              have hy255 := y.toNat_lt
              obtain ⟨m, hm⟩ : ∃ m, y.toNat = m := ⟨_, rfl⟩
              rw [hm] at hc hy255
              have HM := Lib.hid hm
              clear hy hm hlen
              by_cases h48 : 48 ≤ m
              · have p1 : (48 : Int) ≤ (m : Int) := by omega
                by_cases h57 : m ≤ 57
                · have p2 : (m : Int) ≤ 57 := by omega
                  obtain ⟨z, hz⟩ : ∃ z, m - 48 = z := ⟨_, rfl⟩
                  have hz9 : z ≤ 9 := by omega
                  have hsub : IntKind.u8.wrap ((m : Int) - 48) = (z : Int) := by
                    have hall : ∀ q : Nat, q < 10 → IntKind.u8.wrap (((q + 48 : Nat) : Int) - 48) = (q : Int) := by decide
                    have := hall z (by omega)
                    rw [show z + 48 = m by omega] at this
                    exact this
                  have hmore := HDI.out.more (by rw [HDG.out]; have := HD.out.2; rw [HDG.out] at this; exact this) HY.out (by rw [HM.out]; exact h48) (by rw [HM.out]; exact h57)
                  rw [HM.out, hz] at hmore
                  have hn9 := hmore.2
                  have HMO := Lib.hid hmore.1
                  clear hmore hz h48 h57
                  go_wp2_with fail
                  go_roundg (gk - 1)
                  case measure => omega
                  case rel => exact ⟨j + 1, n * 10 + z, by omega, by go_num, by go_num, HMO.out, rfl⟩
                · have p2 : ¬ (m : Int) ≤ 57 := by omega
                  have hdone := HDI.out.done (fun x' hx' => by rw [HY.out] at hx'; cases hx'; rw [HM.out]; omega)
                  rw [HDG.out] at hdone
                  obtain ⟨rfl, rfl⟩ : n' = n ∧ k' = j := by cases hdone; exact ⟨rfl, rfl⟩
                  clear hdone h48 h57
                  go_wp2_with fail
                  go_meet
                  case rel => exact ⟨rfl, rfl, rfl⟩
              · have p1 : ¬ (48 : Int) ≤ (m : Int) := by omega
                have hdone := HDI.out.done (fun x' hx' => by rw [HY.out] at hx'; cases hx'; rw [HM.out]; omega)
                rw [HDG.out] at hdone
                obtain ⟨rfl, rfl⟩ : n' = n ∧ k' = j := by cases hdone; exact ⟨rfl, rfl⟩
                clear hdone h48
                go_wp2_with fail
                go_meet
                case rel => exact ⟨rfl, rfl, rfl⟩
            · have hdone := HDI.out.done (fun x' hx' => by rw [List.getElem?_eq_none (by omega)] at hx'; cases hx')
              rw [HDG.out] at hdone
              obtain ⟨rfl, rfl⟩ : n' = n ∧ k' = j := by cases hdone; exact ⟨rfl, rfl⟩
              clear hdone hlen
              go_wp2_with fail
              go_meet
              case rel => exact ⟨rfl, rfl, rfl⟩
        case rest =>
          obtain ⟨rfl, rfl, hw⟩ := hcut
          rw [hw]
          clear hw
          go_step
          (refine wp_seq_k ?_; intro _ _)
          go_cut [6, 7] from 58 to 86 (fun ow lv wx => wx = wr ∧ ow = .int .i64 (s.ends task).own ∧ Built w 5 1 lv (bcells (if headed s.line = true then s.line.drop ((digs 0 0 s.line).2 + 2) else s.line)) wr)
          case first =>
            have hln6 : ln ≤ 1000000 := by have := HB.out.2.2.1.1; have := HB.out.2.2.2.2.1; omega
            cases hh : headed s.line with
            | false =>
              have hk0 : k' = 0 := by
                rcases HD.out.1 with q | q
                · rw [HDG.out] at q; exact q
                · rw [hh] at q; exact absurd q.1 (by decide)
              subst hk0
              have HH := Lib.hid (show (s.ends task).own = s.own ∧ (if headed s.line = true then s.line.drop ((digs 0 0 s.line).2 + 2) else s.line) = s.line from by
                unfold Sh.ends
                rw [hh]
                exact ⟨rfl, rfl⟩)
              rw [show ((0 : Nat) : Int) = 0 from rfl]
              clear hh
              go_wp2_with fail
              go_meet
              case rel =>
                refine ⟨rfl, by rw [HH.out.1], ?_⟩
                have := HH.out.2
                first | (rw [this]; exact HB.out.1) | exact HB.out.1
            | true =>
              have hu := hh
              unfold headed at hu
              rw [HDG.out] at hu
              simp only [Bool.and_eq_true, decide_eq_true_eq] at hu
              obtain ⟨⟨⟨u1, u2⟩, u3⟩, u4⟩ := hu
              obtain ⟨lb, lo, rfl⟩ := HB.out.1.at_.addr (by have := HB.out.2.2.2.2.1; omega)
              have c1 := HB.out.1.at_.cells k' (.int .u8 58) (by unfold bcells; rw [List.getElem?_map, u3]; rfl)
              have c2 := HB.out.1.at_.cells (k' + 1) (.int .u8 32) (by unfold bcells; rw [List.getElem?_map, u4]; rfl)
              have hlen : s.line.length = ln := HB.out.2.2.2.2.1
              obtain ⟨p, hp⟩ : ∃ p, k' + 1 = p := ⟨_, rfl⟩
              obtain ⟨q, hq⟩ : ∃ q, k' + 2 = q := ⟨_, rfl⟩
              rw [hp] at c2 u2
              have hw1 : IntKind.i64.wrap ((k' : Int) + 1) = (p : Int) := by rw [IntWalk.i64_in _ (by omega)]; omega
              have hw2 : IntKind.i64.wrap ((k' : Int) + 2) = (q : Int) := by rw [IntWalk.i64_in _ (by omega)]; omega
              have z0 : (0 : Int) ≤ (k' : Int) := by omega
              have z1 : (k' : Int) < (ln : Int) := by omega
              have z2 : (0 : Int) ≤ (p : Int) := by omega
              have z3 : (p : Int) < (ln : Int) := by omega
              have z4 : (0 : Int) ≤ (q : Int) := by omega
              have z5 : (q : Int) ≤ (ln : Int) := by omega
              have z6 : (0 : Int) < (k' : Int) := by omega
              have hqn : q ≤ ln := by omega
              have HH := Lib.hid (show (s.ends task).own = n' ∧ (if headed s.line = true then s.line.drop ((digs 0 0 s.line).2 + 2) else s.line) = s.line.drop q from by
                unfold Sh.ends
                rw [hh, HDG.out, if_pos rfl, hq]
                exact ⟨rfl, rfl⟩)
              have HL := Lib.hid hlen
              clear hh u1 u2 u3 u4 hp hq hlen
              by_cases hcap : lc = q
              · subst hcap
                have hB0 : Built w 5 1 (.slice (some ⟨lb, lo, none⟩) 0 0) (bcells (s.line.drop lc)) wr := by
                  have e : s.line.drop lc = [] := List.drop_of_length_le (by rw [HL.out]; omega)
                  rw [e]
                  exact ⟨HB.out.1.at_.empty, HB.out.1.new, HB.out.1.old⟩
                have HB0 := Lib.hid hB0
                clear hB0
                go_wp2_with fail
                go_meet
                case rel =>
                  refine ⟨rfl, by rw [HH.out.1], ?_⟩
                  have := HH.out.2
                  rw [this]
                  have hl : ln = lc := by omega
                  first | exact HB0.out | (subst hl; simpa using HB0.out)
              · have hB0 : Built w 5 1 (.slice (some ⟨lb, lo + q, none⟩) (ln - q) (lc - q)) (bcells (s.line.drop q)) wr := by
                  have h5 := SliceAt.drop HB.out.1.at_ q hqn
                  rw [Nat.mul_one] at h5
                  have e : (bcells s.line).drop q = bcells (s.line.drop q) := by unfold bcells; rw [List.map_drop]
                  rw [e] at h5
                  exact ⟨h5, HB.out.1.new, HB.out.1.old⟩
                have HB0 := Lib.hid hB0
                clear hB0
                go_wp2_with fail
                go_meet
                case rel =>
                  refine ⟨rfl, by rw [HH.out.1], ?_⟩
                  have := HH.out.2
                  rw [this]
                  exact HB0.out
          case rest =>
            obtain ⟨hw, rfl, hBm⟩ := hcut
            rw [hw]
            clear hw
            obtain ⟨m, hm⟩ : ∃ m, (if headed s.line = true then s.line.drop ((digs 0 0 s.line).2 + 2) else s.line) = m := ⟨_, rfl⟩
            rw [hm] at hBm
            have hends : s.ends task = ⟨(s.ends task).own, [], if ((s.ends task).own : Int) = task then s.out ++ [m] else s.out⟩ := by
              rw [← hm]; rfl
            have hstep : s.step task x = s.ends task := by unfold Sh.step; rw [if_pos HX.out]
            obtain ⟨o, ho⟩ : ∃ o, (s.ends task).own = o := ⟨_, rfl⟩
            rw [ho] at hends ⊢
            have hml : m.length ≤ 1000000 := by
              rw [← hm]
              split
              · rw [List.length_drop]; have := HB.out.2.2.1.1; omega
              · exact HB.out.2.2.1.1
            obtain ⟨ma, mn, mc, rfl, hmn, -⟩ := hBm.at_.form
            rw [bcells_length, Nat.mul_one] at hmn
            subst hmn
            have HE := Lib.hid (hstep.trans hends)
            have hcv := run_to_string (P := Tryd.prog) (w := wr) Tryd.underlying26 Tryd.underlying5 Tryd.underlying9 hBm.at_
            clear hm hends hstep ho
            by_cases hot : (o : Int) = task
            · have hob : ((o : Int) == task) = true := by simp [hot]
              have hA := HB.out.2.1.alloc (.cells #[.string ⟨m.toArray⟩] 9)
              have HA := Lib.hid (And.intro hA hot)
              have HBM := Lib.hid hBm
              clear hA hot hBm
              go_wp2_with (
                at_builtin
                refine wpList_append _ rfl _ _ 34 34 rfl 9 1 16 (.string ByteArray.empty) Tryd.underlying34 (.inr ⟨_, Tryd.underlying34⟩) elemStr (.slice oa on oc) _ rfl HA.out.1.at_ _ _ _ rfl (Src.one rfl (heap_alloc_new wr _)) (by intro u hu; simp at hu; subst hu; rfl) (by have := HB.out.2.2.1.2; simp [scells_length]; omega) (by have := HB.out.2.2.1.2; simp [scells_length]; omega) ?_
                intro v2 w2 hv2 ht2 hw2 hn2
                have hG := HA.out.1.grown ht2 hv2 hw2
                have HG := Lib.hid hG
                obtain ⟨pa, pn, pc, rfl, -⟩ := hv2.form
                clear hv2 ht2 hw2 hn2 hG)
              go_roundg (G - 1)
              case measure => omega
              case rel =>
                refine ⟨i + 1, by omega, by go_num, ?_⟩
                rw [HST.out, HE.out, if_pos HA.out.2]
                refine ⟨rfl, ⟨SliceAt.nil _ _ _, fun b hb => by simp [Value.ownBlock] at hb, HG.out.old⟩, ?_⟩
                rw [scells_append]
                exact HG.out
            · have hob : ((o : Int) == task) = false := by simp [hot]
              have HA := Lib.hid (And.intro HB.out.2.1 hot)
              clear hot hBm hcv
              go_wp2_with fail
              go_roundg (G - 1)
              case measure => omega
              case rel =>
                refine ⟨i + 1, by omega, by go_num, ?_⟩
                rw [HST.out, HE.out, if_neg HA.out.2]
                exact ⟨rfl, ⟨SliceAt.nil _ _ _, fun b hb => by simp [Value.ownBlock] at hb, HA.out.1.old⟩, HA.out.1⟩
      · have q1 : ((x.toNat : Int) != 10) = true := by simp; omega
        have hA := HB.out.1.alloc (.cells #[.int .u8 (x.toNat : Int)] 5)
        have hA2 := HB.out.2.1.alloc (.cells #[.int .u8 (x.toNat : Int)] 5)
        have HA := Lib.hid (And.intro hA hA2)
        have HX := Lib.hid h10
        clear hA hA2 h10
        go_wp2_with (
          at_builtin
          refine wpList_append _ rfl _ _ 26 26 rfl 5 1 1 (.int .u8 0) Tryd.underlying26 (.inr ⟨_, Tryd.underlying26⟩) elemU8 (.slice la ln lc) _ rfl HA.out.1.at_ _ _ _ rfl (Src.one rfl (heap_alloc_new wr _)) (by intro u hu; simp at hu; subst hu; rfl) (by have := HB.out.2.2.1.1; simp [bcells_length]; omega) (by have := HB.out.2.2.1.1; simp [bcells_length]; omega) ?_
          intro v2 w2 hv2 ht2 hw2 hn2
          have hG := HA.out.1.grown ht2 hv2 hw2
          have hO2 := HA.out.2.turn ht2 (fun k hk => HA.out.1.new k hk) (own_ne HA.out.2.at_ HA.out.1.at_ (by decide))
          have HG := Lib.hid (And.intro hG hO2)
          obtain ⟨pa, pn, pc, rfl, -⟩ := hv2.form
          clear hv2 ht2 hw2 hn2 hG hO2)
        go_roundg (gk - 1)
        case measure => omega
        case rel =>
          refine ⟨i + 1, by omega, by go_num, ?_⟩
          rw [HST.out]
          unfold Sh.step
          rw [if_neg HX.out]
          refine ⟨rfl, ?_, HG.out.2⟩
          show Built w 5 1 _ (bcells (s.line ++ [x])) _
          rw [bcells_append]
          exact HG.out.1
    · have hi : i = l.length := by omega
      subst hi
      rw [List.take_length] at hs
      have HF := Lib.hid (And.intro hO hs)
      clear hL hO hs hll
      go_wp2_with fail
      go_ret
      rw [HF.out.2]
      exact ⟨_, rfl, HF.out.1⟩
end
end Go.Con
