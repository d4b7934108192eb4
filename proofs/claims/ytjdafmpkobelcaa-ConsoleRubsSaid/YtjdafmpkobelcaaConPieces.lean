/-
  ConsolePieces, walked.
-/
import Derived.Test.YtjdafmpkobelcaaConEq
import Derived.Test.YtjdafmpkobelcaaConPure1
namespace Go.Con
open Go.Own Go.RowKit Go.Proofs

theorem Old.trans {w w1 w2 : World} (h : Old w w1) (k : Old w1 w2) : Old w w2 := Turn.trans h (k.mono fun j _ hj => Nat.le_trans h.size hj)

theorem BCells.old {w w' : World} {a : Option Addr} {l : Bytes} (h : BCells w a l) (t : Old w w') : BCells w' a l := by
  rcases h with h | ⟨b, off, ha, hc⟩
  · exact .inl h
  · refine .inr ⟨b, off, ha, fun i hi => ?_⟩
    have hb := World.block_lt_of_cell? w _ (hc i hi)
    rw [t.cell (by show ¬ w.heap.size ≤ b; exact Nat.not_le.2 hb) hb]; exact hc i hi

/-- Type, at a slice of which the length is told besides. -/
theorem type_calls' {g : Ghost} {S : CS} {w : World} (a : Option Addr) (n cap : Nat) (l : Bytes) (hn : n = l.length) {c : Nat} (hc : g.c = c) (h : Rep g S w) (hok : S.Ok) {N : Nat} (hsm : S.Small N) (hN : N + 250 * l.length ≤ 1099511000000) (hl : l.length ≤ 1000000) (hin : BIn g.ρ w a l) :
    Calls Try.prog 8 #[.pointer (some ⟨c, 0, none⟩), .slice a n cap] w (LinesPost g w (S.type l)) := by
  subst hn; exact type_calls a cap l hc h hok hsm hN hl hin

/-- Where the law stands: the first i bytes have been typed at the second console. -/
structure PInv (w0 : World) (g : Ghost) (S1 : CS) (L1 : List Ln) (wv : Value) (N : Nat) (l : Bytes) (dc : Nat) (i : Nat) (ov : Value) (wr : World) (d : Ghost) : Prop where
  repc : Rep g S1 wr
  repd : Rep d (CS.new.type (l.take i)).1 wr
  dc : d.c = dc
  apart : Apart g d
  want : SliceAt wr 28 2 wv (lcells L1)
  wantb : ∀ b, wv.ownBlock = some b → b < N ∧ (g.ρ b).1 = 0 ∧ (d.ρ b).1 = 0
  got : SliceAt wr 28 2 ov (lcells (CS.new.type (l.take i)).2)
  gotb : ∀ b, ov.ownBlock = some b → N ≤ b ∧ (g.ρ b).1 = 0 ∧ (d.ρ b).1 = 0
  old : Old w0 wr
  size : N ≤ wr.heap.size
  base : w0.heap.size ≤ N
  dnew : ∀ k, k < w0.heap.size → (d.ρ k).1 = 0

theorem type_take_add (S : CS) (l : Bytes) (i n : Nat) : S.type (l.take (i + n)) = (((S.type (l.take i)).1.type ((l.drop i).take n)).1, (S.type (l.take i)).2 ++ ((S.type (l.take i)).1.type ((l.drop i).take n)).2) := by
  rw [List.take_add, CS.type_append]

section
variable {w0 : World} {g : Ghost} {S1 : CS} {L1 : List Ln} {wv : Value} {N : Nat} {l : Bytes} {dc i : Nat} {ov : Value} {wr : World} {d : Ghost}

theorem PInv.type (P : PInv w0 g S1 L1 wv N l dc i ov wr d) (n cap : Nat) {b off : Nat} (h2 : i + n ≤ l.length) (hl : l.length ≤ 1000) (hb : b < w0.heap.size) (hc : ∀ j (h : j < l.length), wr.cell? ⟨b, off + j, none⟩ = some (.int .u8 (l[j].toNat : Int))) :
    Calls Try.prog 8 #[.pointer (some ⟨dc, 0, none⟩), .slice (some ⟨b, off + i, none⟩) n cap] wr (LinesPost d wr ((CS.new.type (l.take i)).1.type ((l.drop i).take n))) := by
  have hlen : ((l.drop i).take n).length = n := by simp; omega
  refine type_calls' _ n cap _ hlen.symm P.dc P.repd (CS.type_ok CS.new_ok _) (CS.type_small (m := 250 * i) CS.new_small CS.new_ok _ (by rw [List.length_take]; omega)) (by rw [hlen]; omega) (by rw [hlen]; omega) (.inr ⟨b, off + i, rfl, P.dnew b hb, ?_, fun j hj => ?_⟩)
  · have := P.old.size; omega
  · have hj' : i + j < l.length := by rw [hlen] at hj; omega
    have := hc (i + j) hj'
    rw [← Nat.add_assoc] at this
    rw [this]
    simp

theorem PInv.next (P : PInv w0 g S1 L1 wv N l dc i ov wr d) (n : Nat) {d2 : Ghost} {w2 w3 : World} {v3 : Value} (r2 : Rep d2 ((CS.new.type (l.take i)).1.type ((l.drop i).take n)).1 w2) (s2 : Step d d2 wr w2)
    (hv3 : SliceAt w3 28 2 v3 (lcells (CS.new.type (l.take i)).2 ++ lcells ((CS.new.type (l.take i)).1.type ((l.drop i).take n)).2)) (ht3 : Turn (fun k => ov.ownBlock = some k) w2 w3) (hw3 : v3.ownBlock = ov.ownBlock ∨ v3.ownBlock = some w2.heap.size) :
    PInv w0 g S1 L1 wv N l dc (i + n) v3 w3 d2 := by
  have hb := P.repc.beside P.repd P.apart s2 r2
  have hz := s2.turn.size
  have hlt := P.got.lt
  have hov : ∀ q, ov.ownBlock = some q → N ≤ q ∧ (g.ρ q).1 = 0 ∧ (d2.ρ q).1 = 0 := fun q hq => by
    have h1 := P.gotb q hq
    exact ⟨h1.1, h1.2.1, by rw [s2.tags q (hlt q hq)]; exact h1.2.2⟩
  refine ⟨hb.1.keep ht3 (fun k _ hk => (hov k hk).2.1), ?_, s2.c.trans P.dc, hb.2, ?_, fun q hq => ?_, ?_, fun q hq => ?_, ?_, ?_, P.base, fun k hk => ?_⟩
  · rw [type_take_add]; exact r2.keep ht3 (fun k _ hk => (hov k hk).2.2)
  · refine (P.want.turn s2.turn (fun q hq => by simp [(P.wantb q hq).2.2])).turn ht3 (fun q hq hh => ?_)
    have h1 := (P.wantb q hq).1
    have h2 := (hov q hh).1
    omega
  · have h1 := P.wantb q hq
    exact ⟨h1.1, h1.2.1, by rw [s2.tags q (by have := P.size; omega)]; exact h1.2.2⟩
  · rw [type_take_add, lcells_append]; exact hv3
  · rcases hw3 with hw3 | hw3
    · exact hov q (hw3 ▸ hq)
    · rw [hw3] at hq
      cases hq
      exact ⟨by have := P.size; omega, hb.1.fresh _ (Nat.le_refl _), r2.fresh _ (Nat.le_refl _)⟩
  · have h1 : Old w0 w2 := ⟨s2.turn.os.trans P.old.os, s2.turn.tape.trans P.old.tape, s2.turn.output.trans P.old.output, Nat.le_trans P.old.size hz, fun k hk hn => by
      have hk' : k < w0.heap.size := hk
      rw [s2.turn.block k (by have := P.old.size; omega) (by simp [P.dnew k hk'])]
      exact P.old.block k hk hn⟩
    exact Turn.trans h1 (ht3.mono fun k _ hh => Nat.le_trans P.base (hov k hh).1)
  · have := P.size; have := ht3.size; omega
  · rw [s2.tags k (by have := P.old.size; omega)]; exact P.dnew k hk
end

set_option maxHeartbeats 2000000 in
theorem pieces_calls (w0 : World) (l sd : Bytes) (a sa : Option Addr) (cap scap : Nat) (hl : l.length ≤ 1000) (hcap : l.length ≤ cap) (hscap : sd.length ≤ scap) (hs63 : scap ≤ maxLen) (hc63 : cap ≤ maxLen)
    (hin : BCells w0 a l) (hsin : BCells w0 sa sd) :
    Calls Try.prog 4 #[.slice a l.length cap, .slice sa sd.length scap] w0 fun e w' => e = .returned (.bool true) ∧ Old w0 w' := by
  have hl' : ¬ ((1000 : Int) < (l.length : Int)) := by omega
  have HI := Lib.hid hin
  have HSI := Lib.hid hsin
  clear hin hsin
  go_enter Try.func4, Try.ntmps4
  go_wp2_with fail
  refine (new_calls w0).mono ?_
  rintro e1 w1 ⟨g0, rfl, r1, t1, htag, hgc⟩
  have HT := Lib.hid htag
  clear htag
  go_wp2_with fail
  refine (new_calls w1).mono ?_
  rintro e2 w2 ⟨d0, rfl, rd, t2, hdtag, hdc⟩
  have HD := Lib.hid hdtag
  clear hdtag
  have r1' : Rep g0 CS.new w2 := r1.keep t2 (fun _ _ hh => hh.elim)
  have hap : Apart g0 d0 := fun k => by
    rcases Nat.lt_or_ge k w1.heap.size with hk | hk
    · right; rw [HD.out k hk]
    · left; exact r1.fresh k hk
  have HA := Lib.hid hap
  clear hap
  go_wp2_with fail
  refine (type_calls (g := g0) a cap l rfl r1' CS.new_ok (CS.new_small) (by omega) (by omega) (BIn.of_old (t1.trans t2) HT.out HI.out)).mono ?_
  rintro e3 w3 ⟨v3, g, rfl, r3, s3, o3, n3⟩
  obtain ⟨qa, qn, qc, rfl, -⟩ := o3.form
  have hrd := rd.beside r1' HA.out.symm s3 r3
  have o0 : Old w0 w3 := s3.old (t1.trans t2) HT.out
  have HP : Hid (PInv w0 g (CS.new.type l).1 (CS.new.type l).2 (.slice qa qn qc) w3.heap.size l d0.c 0 (.slice none 0 0) w3 d0) := ⟨r3, hrd.1, rfl, hrd.2.symm, o3, fun b hb => ⟨o3.lt b hb, (n3 b hb).2, by
      exact rd.fresh b (n3 b hb).1⟩, SliceAt.nil _ _ _, fun b hb => by simp [Value.ownBlock] at hb, o0, Nat.le_refl _, o0.size, fun k hk => by rw [HD.out k (Nat.lt_of_lt_of_le hk t1.size)]⟩
  have hg : g.c = g0.c := s3.c
  rw [← hg]
  have HG0 : Hid (∀ k, k < w0.heap.size → (g.ρ k).1 = 0) := fun k hk => by
    rw [s3.tags k (Nat.lt_of_lt_of_le hk (Nat.le_trans t1.size t2.size)), HT.out k hk]
  clear HT HD HA r1 rd t1 t2 r1' hgc hdc hg s3 r3 o3 n3 hrd
  generalize hdcc : d0.c = dc at *
  generalize hS1 : (CS.new.type l).1 = S1 at *
  generalize hL1 : (CS.new.type l).2 = L1 at *
  have HS1 := Lib.hid hS1
  have HL1 := Lib.hid hL1
  clear hS1 hL1 hdcc
  generalize w3.heap.size = N at *
  go_wp2_with fail
  go_loopw [8, 9, 10] (fun ov iv kv wr => ∃ i k : Nat, i ≤ l.length ∧ k ≤ i ∧ iv = .int .i64 i ∧ kv = .int .i64 k ∧ ∃ d, PInv w0 g S1 L1 (.slice qa qn qc) N l dc i ov wr d) (fun _ iv _ _ => l.length - (intOf iv).toNat)
  case atStart => exact ⟨0, 0, Nat.zero_le _, Nat.le_refl _, rfl, rfl, d0, HP.out⟩
  case round =>
    obtain ⟨i, k, hi, hki, rfl, rfl, d, P⟩ := hrel
    by_cases hil : i < l.length
    · -- how many bytes are typed next
      obtain ⟨b, off, rfl, hcell⟩ := (HI.out.old P.old).resolve_left (fun e => by rw [e] at hil; simp at hil)
      have hb := World.block_lt_of_cell? w0 _ ((HI.out).resolve_left (fun e => by rw [e] at hil; simp at hil) |> fun ⟨b', off', hb', hc'⟩ => by cases hb'; exact hc' i hil)
      obtain ⟨oa, on, oc, rfl, ol, -⟩ := P.got.form
      rw [lcells_length] at ol
      have hln := CS.type_lines CS.new (l.take i)
      have hln2 := CS.type_lines (CS.new.type (l.take i)).1
      rw [List.length_take] at hln
      have hon : (CS.new.type (l.take i)).2.length ≤ 1000 := by omega
      have HC := Lib.hid hcell
      have HL2 := Lib.hid hln2
      have hcapi : ¬ cap = i := by omega
      clear hln hln2 ol hcell
      by_cases hs0 : sd = []
      · have hs1 : ¬ ((0 : Int) < (sd.length : Int)) := by simp [hs0]
        clear hs0
        have hi0 : (1 : Int) ≤ (l.length : Int) - (i : Int) := by omega
        have hi1 : (i : Int) + 1 ≤ (cap : Int) := by omega
        go_wp2_with (first
          | (go_at_call 8; refine (P.type 1 (cap - i) (by omega) hl hb HC.out).mono ?_; rintro e4 w4 ⟨v4, d4, rfl, r4, s4, o4, n4⟩
             obtain ⟨pa, pn, pc, rfl, -⟩ := o4.form
             have og := Lib.hid (P.got.turn s4.turn (fun q hq => by simp [(P.gotb q hq).2.2])))
          | (at_builtin; refine wpList_append _ rfl _ _ 25 25 rfl 28 2 24 (.agg #[.int .i64 0, .string ByteArray.empty]) Try.underlying25 (.inr ⟨_, Try.underlying25⟩) elemLine (.slice oa on oc) _ rfl og.out _ _ _ rfl (Src.of_slice o4) (lcells_one _) (by have := HL2.out ((l.drop i).take (1)); rw [List.length_take] at this; rw [lcells_length, lcells_length]; omega) (by have := HL2.out ((l.drop i).take (1)); rw [List.length_take] at this; rw [lcells_length, lcells_length]; omega) ?_
             intro v5 w5 hv5 ht5 hw5 hn5; clear hn5; obtain ⟨ra, rn, rc, rfl, -⟩ := hv5.form))
        go_roundw
        case rel => exact ⟨i + (1), k + 1, by omega, by omega, by go_num, by go_num, d4, P.next (1) r4 s4 hv5 ht5 hw5⟩
        case measure => simp [intOf]; omega
      · obtain ⟨sb, so, rfl, hsc⟩ := (HSI.out.old P.old).resolve_left hs0
        have hsl : 0 < sd.length := List.length_pos_iff.2 hs0
        have hm0 : k % sd.length < sd.length := Nat.mod_lt _ hsl
        have hsk := hsc _ hm0
        generalize hx : sd[k % sd.length] = x at *
        have hslI : (0 : Int) < (sd.length : Int) := by omega
        have hmod : ((k : Int) % (sd.length : Int)) = ((k % sd.length : Nat) : Int) := by omega
        generalize hj : k % sd.length = j at *
        clear hx hj hsc hs0
        have hy256 : x.toNat < 256 := x.toNat_lt
        generalize x.toNat = y at *
        have hym : ((y : Int) % 7) = ((y % 7 : Nat) : Int) := by omega
        have hq7 : y % 7 < 7 := Nat.mod_lt _ (by omega)
        generalize y % 7 = q at *
        by_cases hle : 1 + q ≤ l.length - i
        · have hi0 : ¬ ((l.length : Int) - (i : Int) < 1 + (q : Int)) := by omega
          have hi1 : (i : Int) + (1 + (q : Int)) ≤ (cap : Int) := by omega
          go_wp2_with (first
            | (go_at_call 8; refine (P.type (1 + q) (cap - i) (by omega) hl hb HC.out).mono ?_; rintro e4 w4 ⟨v4, d4, rfl, r4, s4, o4, n4⟩
               obtain ⟨pa, pn, pc, rfl, -⟩ := o4.form
               have og := Lib.hid (P.got.turn s4.turn (fun q hq => by simp [(P.gotb q hq).2.2])))
            | (at_builtin; refine wpList_append _ rfl _ _ 25 25 rfl 28 2 24 (.agg #[.int .i64 0, .string ByteArray.empty]) Try.underlying25 (.inr ⟨_, Try.underlying25⟩) elemLine (.slice oa on oc) _ rfl og.out _ _ _ rfl (Src.of_slice o4) (lcells_one _) (by have := HL2.out ((l.drop i).take (1 + q)); rw [List.length_take] at this; rw [lcells_length, lcells_length]; omega) (by have := HL2.out ((l.drop i).take (1 + q)); rw [List.length_take] at this; rw [lcells_length, lcells_length]; omega) ?_
               intro v5 w5 hv5 ht5 hw5 hn5; clear hn5; obtain ⟨ra, rn, rc, rfl, -⟩ := hv5.form))
          go_roundw
          case rel => exact ⟨i + (1 + q), k + 1, by omega, by omega, by go_num, by go_num, d4, P.next (1 + q) r4 s4 hv5 ht5 hw5⟩
          case measure => simp [intOf]; omega
        · have hi0 : ((l.length : Int) - (i : Int) < 1 + (q : Int)) := by omega
          go_wp2_with (first
            | (go_at_call 8; refine (P.type (l.length - i) (cap - i) (by omega) hl hb HC.out).mono ?_; rintro e4 w4 ⟨v4, d4, rfl, r4, s4, o4, n4⟩
               obtain ⟨pa, pn, pc, rfl, -⟩ := o4.form
               have og := Lib.hid (P.got.turn s4.turn (fun q hq => by simp [(P.gotb q hq).2.2])))
            | (at_builtin; refine wpList_append _ rfl _ _ 25 25 rfl 28 2 24 (.agg #[.int .i64 0, .string ByteArray.empty]) Try.underlying25 (.inr ⟨_, Try.underlying25⟩) elemLine (.slice oa on oc) _ rfl og.out _ _ _ rfl (Src.of_slice o4) (lcells_one _) (by have := HL2.out ((l.drop i).take (l.length - i)); rw [List.length_take] at this; rw [lcells_length, lcells_length]; omega) (by have := HL2.out ((l.drop i).take (l.length - i)); rw [List.length_take] at this; rw [lcells_length, lcells_length]; omega) ?_
               intro v5 w5 hv5 ht5 hw5 hn5; clear hn5; obtain ⟨ra, rn, rc, rfl, -⟩ := hv5.form))
          go_roundw
          case rel => exact ⟨i + (l.length - i), k + 1, by omega, by omega, by go_num, by go_num, d4, P.next (l.length - i) r4 s4 hv5 ht5 hw5⟩
          case measure => simp [intOf]; omega
    · obtain rfl : i = l.length := by omega
      have wt := P.want
      have gt := P.got
      have rd1 := P.repd
      rw [List.take_length, HL1.out] at gt
      rw [List.take_length, HS1.out] at rd1
      obtain ⟨oa, on, oc, rfl, ol, -⟩ := gt.form
      obtain ⟨qa', qn', qc', hq, ql, -⟩ := wt.form
      cases hq
      rw [lcells_length] at ol ql
      obtain rfl : on = L1.length := by omega
      obtain rfl : qn = L1.length := by omega
      have hscr : S1.screen.length ≤ 1099511627776 := by
        have h0 := (CS.type_small (m := 250 * l.length) CS.new_small CS.new_ok l (by omega)).screen
        rw [HS1.out] at h0
        omega
      have hL1 : L1.length ≤ 1000 := by
        have h0 := CS.type_lines CS.new l
        rw [HL1.out] at h0
        omega
      have HSC := Lib.hid hscr
      have hdc := Lib.hid P.dc
      have hWB := Lib.hid P.wantb
      have hGB := Lib.hid P.gotb
      have hAP := Lib.hid P.apart
      have hRC := Lib.hid P.repc
      have hsz := P.size
      clear ol ql hscr
      go_wp2_with fail
      refine (screen_calls (g := g) rfl hRC.out HSC.out).mono ?_
      rintro e4 w4 ⟨v4, rfl, o4, r4, s4, n4⟩
      obtain ⟨pa, pn, pc, rfl, -⟩ := o4.form
      have rd4 := Lib.hid (rd1.beside hRC.out hAP.out.symm s4 r4)
      go_wp2_with fail
      refine (screen_calls (g := d) hdc.out rd4.out.1 HSC.out).mono ?_
      rintro e5 w5 ⟨v5, rfl, o5, r5, s5, n5⟩
      obtain ⟨ra, rn, rc, rfl, -⟩ := o5.form
      have rc5 := Lib.hid (r4.beside rd4.out.1 rd4.out.2.symm s5 r5)
      have o45 := Lib.hid (BCells.of_slice (o4.turn s5.turn (fun q hq => by simp [rd1.fresh q (n4 q hq)])))
      have o55 := Lib.hid (BCells.of_slice o5)
      obtain rfl : pn = S1.screen.length := o45.out.1
      obtain rfl : rn = S1.screen.length := o55.out.1
      have s45 : Step g g wr w4 := s4
      go_wp2_with fail
      refine (eqBytes_calls w5 pa ra pc rc S1.screen o45.out.2 o55.out.2 HSC.out).mono ?_
      rintro e6 w6 ⟨rfl, t6⟩
      have r6 : Rep g S1 w6 := rc5.out.1.keep t6 (fun _ _ hh => hh.elim)
      have d6 : Rep d S1 w6 := r5.keep t6 (fun _ _ hh => hh.elim)
      go_wp2_with fail
      refine (chosen_calls rfl r6).mono ?_
      rintro e7 w7 ⟨rfl, rfl⟩
      go_wp2_with fail
      refine (chosen_calls hdc.out d6).mono ?_
      rintro e8 w8 ⟨rfl, rfl⟩
      have hch : (S1.chosen != S1.chosen) = false := by simp
      go_wp2_with fail
      refine (typed_calls rfl r6).mono ?_
      rintro e7 w7 ⟨rfl, rfl⟩
      go_wp2_with fail
      refine (typed_calls hdc.out d6).mono ?_
      rintro e8 w8 ⟨rfl, rfl⟩
      have wt6 : SliceAt w8 28 2 (.slice qa L1.length qc) (lcells L1) := ((wt.turn s4.turn (fun q hq => by simp [(hWB.out q hq).2.1])).turn s5.turn (fun q hq => by simp [(hWB.out q hq).2.2])).turn t6 (fun _ _ hh => hh)
      have gt6 : SliceAt w8 28 2 (.slice oa L1.length oc) (lcells L1) := ((gt.turn s4.turn (fun q hq => by simp [(hGB.out q hq).2.1])).turn s5.turn (fun q hq => by simp [(hGB.out q hq).2.2])).turn t6 (fun _ _ hh => hh)
      have old6 : Hid (Old w0 w8) := by
        have hd := P.dnew
        have hgn : ∀ k, k < w0.heap.size → (g.ρ k).1 = 0 := HG0.out
        have h4 := P.old
        refine ⟨t6.os.trans (s5.turn.os.trans (s4.turn.os.trans h4.os)), t6.tape.trans (s5.turn.tape.trans (s4.turn.tape.trans h4.tape)), t6.output.trans (s5.turn.output.trans (s4.turn.output.trans h4.output)), Nat.le_trans h4.size (Nat.le_trans s4.turn.size (Nat.le_trans s5.turn.size t6.size)), fun k hk hn => ?_⟩
        have hk' : k < w0.heap.size := hk
        have z4 := h4.size
        have z5 := s4.turn.size
        have z6 := s5.turn.size
        rw [t6.block k (by omega) (fun h => h), s5.turn.block k (by omega) (by simp [hd k hk']), s4.turn.block k (by omega) (by simp [hgn k hk'])]
        exact h4.block k hk hn
      clear s4 s5 o4 o5 n4 n5 rd1 r4 r5 t6 wt gt s45 P
      go_wp2_with fail
      go_loopw [12] (fun iv wx => ∃ j : Nat, j ≤ L1.length ∧ iv = .int .i64 j ∧ Turn (fun _ => False) w8 wx) (fun iv _ => L1.length - (intOf iv).toNat)
      case atStart => exact ⟨0, Nat.zero_le _, rfl, Turn.refl _ _⟩
      case round =>
        obtain ⟨j, hj, rfl, t8⟩ := hrel
        by_cases hjl : j < L1.length
        · have w9 := wt6.turn t8 (fun _ _ hh => hh)
          have g9 := gt6.turn t8 (fun _ _ hh => hh)
          obtain ⟨b1, o1, rfl⟩ := w9.addr (by omega)
          obtain ⟨b2, o2, rfl⟩ := g9.addr (by omega)
          have hx := lcells_get L1 j hjl
          have k1 := w9.cells _ _ hx.1
          have k2 := w9.cells _ _ hx.2
          have m1 := g9.cells _ _ hx.1
          have m2 := g9.cells _ _ hx.2
          rw [← Nat.add_assoc] at k2 m2
          unfold str at k2 m2
          generalize L1[j] = x at *
          have hj0 : (0 : Int) ≤ (j : Int) := by omega
          have hj1 : (j : Int) < (L1.length : Int) := by omega
          clear hx wt6 gt6 w9 g9
          go_wp2
          go_quiet (fail)
          go_wp2
          exact ⟨⟨j + 1, by omega, by go_num, turn_drewN _ t8⟩, by simp [intOf]; omega⟩
        · obtain rfl : j = L1.length := by omega
          go_wp2_with fail
          refine (awake_calls _).mono ?_
          rintro e9 w9 ⟨rfl, t9⟩
          go_wp2
          go_ret
          exact ⟨rfl, (old6.out.trans (t8.mono fun _ _ hh => hh.elim)).trans t9⟩
end Go.Con
