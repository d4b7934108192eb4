/-
  Edit of the program and of the reference: the texts of the lines that the plain bytes make; EqStrings at two equal lists.
-/
import Derived.Test.YtjdafmpkobelcaaConPlain
namespace Go.Con
open Go.Own Go.RowKit Go.Proofs

def editOf (l : Bytes) : List Bytes := (CS.new.type (plainOf l)).2.map Prod.snd

/-- Strings lie there. -/
def SCells (w : World) (a : Option Addr) (l : List Bytes) : Prop :=
  l = [] ∨ ∃ b off, a = some ⟨b, off, none⟩ ∧ ∀ i (h : i < l.length), w.cell? ⟨b, off + i, none⟩ = some (str l[i])

theorem SCells.of_slice {w : World} {e : TypeId} {a : Option Addr} {n cap : Nat} {l : List Bytes} (h : SliceAt w e 1 (.slice a n cap) (scells l)) : n = l.length ∧ SCells w a l := by
  obtain ⟨a', n', c', hv, hl, _⟩ := h.form
  cases hv
  rw [scells_length, Nat.mul_one] at hl
  refine ⟨hl.symm, ?_⟩
  by_cases h0 : l = []
  · exact .inl h0
  · have : 0 < l.length := List.length_pos_iff.2 h0
    obtain ⟨b, off, rfl⟩ := h.addr (by omega)
    refine .inr ⟨b, off, rfl, fun i hi => h.cells i _ ?_⟩
    simp [scells, hi]

theorem SCells.turn {w w' : World} {a : Option Addr} {l : List Bytes} (h : SCells w a l) (t : Turn (fun _ => False) w w') : SCells w' a l := by
  rcases h with h | ⟨b, off, ha, hc⟩
  · exact .inl h
  · refine .inr ⟨b, off, ha, fun i hi => ?_⟩
    have hb := World.block_lt_of_cell? w _ (hc i hi)
    rw [t.cell (fun h => h) hb]; exact hc i hi

set_option maxHeartbeats 1000000 in
theorem eqStrings_calls (w : World) (a b : Option Addr) (ca cb : Nat) (l : List Bytes) (ha : SCells w a l) (hb : SCells w b l) (hl : l.length ≤ 1099511627776) :
    Calls Try.prog 16 #[.slice a l.length ca, .slice b l.length cb] w fun e w' => e = .returned (.bool true) ∧ Turn (fun _ => False) w w' := by
  have hne : (((l.length : Nat) : Int) != ((l.length : Nat) : Int)) = false := by simp
  go_enter Try.func16, Try.ntmps16
  go_wp2
  go_loopw [5] (fun iv wr => ∃ k : Nat, k ≤ l.length ∧ iv = .int .i64 k ∧ Turn (fun _ => False) w wr) (fun iv _ => l.length - (intOf iv).toNat)
  case atStart => exact ⟨0, Nat.zero_le _, rfl, Turn.refl _ _⟩
  case round =>
    obtain ⟨k, hk, rfl, ht⟩ := hrel
    by_cases hlt : k < l.length
    · obtain ⟨b1, o1, rfl, c1⟩ := (ha.turn ht).resolve_left (fun e => by rw [e] at hlt; simp at hlt)
      obtain ⟨b2, o2, rfl, c2⟩ := (hb.turn ht).resolve_left (fun e => by rw [e] at hlt; simp at hlt)
      have k1 := c1 k hlt
      have k2 := c2 k hlt
      unfold str at k1 k2
      generalize hx : l[k] = x at *
      clear c1 c2 hx
      have hk0 : (0 : Int) ≤ (k : Int) := by omega
      have hk1 : (k : Int) < (l.length : Int) := by omega
      go_wp2
      go_quiet (fail)
      go_wp2
      go_roundw
      case rel => exact ⟨k + 1, by omega, by go_num, turn_drewN _ ht⟩
      case measure => simp [intOf]; omega
    · obtain rfl : k = l.length := by omega
      go_wp2
      go_ret
      exact ⟨rfl, ht⟩

def EditPost (w0 : World) (l : Bytes) (e : Ending) (w' : World) : Prop := ∃ v, e = .returned v ∧ Built w0 9 1 v (scells (editOf l)) w'

set_option maxHeartbeats 2000000 in
theorem edit_calls (w0 : World) (l : Bytes) (a : Option Addr) (cap : Nat) (hin : BCells w0 a l) (hl : l.length ≤ 3000) :
    Calls Try.prog 17 #[.slice a l.length cap] w0 (EditPost w0 l) := by
  have HI := Lib.hid hin
  clear hin
  go_enter Try.func17, Try.ntmps17
  go_wp2_with fail
  refine (new_calls w0).mono ?_
  rintro e1 w1 ⟨g, rfl, r1, t1, htag, hgc⟩
  have HT := Lib.hid htag
  clear htag
  have hin1 : BCells w1 a l := HI.out.old (t1.mono fun _ _ hh => hh.elim)
  go_wp2_with fail
  refine (plain_calls w1 l a cap hin1 (by omega)).mono ?_
  rintro e2 w2 ⟨v2, rfl, B2⟩
  obtain ⟨pa, pn, pc, rfl, -⟩ := B2.at_.form
  obtain ⟨rfl, P2⟩ := BCells.of_slice B2.at_
  have hpl : (plainOf l).length ≤ 3000 := by have := (pst_le l).2; unfold plainOf; omega
  have r2 : Rep g CS.new w2 := r1.keep B2.old (fun k _ hk => r1.fresh k hk)
  have hbin : BIn g.ρ w2 pa (plainOf l) := by
    rcases P2 with h0 | ⟨b, off, rfl, hc⟩
    · exact .inl h0
    · exact .inr ⟨b, off, rfl, r1.fresh b (B2.new b rfl), B2.at_.lt b rfl, hc⟩
  have old2 : Turn (fun k => w0.heap.size ≤ k) w0 w2 := (t1.mono fun _ _ hh => hh.elim).trans ⟨B2.old.os, B2.old.tape, B2.old.output, B2.old.size, fun k hk hn => B2.old.block k hk fun hh => hn (Nat.le_trans t1.size hh)⟩
  have O2 := Lib.hid old2
  clear B2 P2 old2 hin1
  go_wp2_with fail
  refine (type_calls (g := g) pa pc (plainOf l) rfl r2 CS.new_ok (CS.new_small) (by omega) (by omega) hbin).mono ?_
  rintro e3 w3 ⟨v3, g3, rfl, r3, s3, o3, n3⟩
  obtain ⟨qa, qn, qc, rfl, ql, -⟩ := o3.form
  rw [lcells_length] at ql
  have hll := CS.type_lines CS.new (plainOf l)
  have old3 : Turn (fun k => w0.heap.size ≤ k) w0 w3 := O2.out.trans (s3.turn.mono fun k _ hk => by
    rcases Nat.lt_or_ge k w0.heap.size with h | h
    · rw [HT.out k h] at hk; exact absurd rfl hk
    · exact h)
  have O3 := Lib.hid old3
  have hE : editOf l = (CS.new.type (plainOf l)).2.map Prod.snd := rfl
  generalize (CS.new.type (plainOf l)).2 = L at *
  obtain rfl : qn = L.length := by omega
  have HE := Lib.hid hE
  clear ql old3 s3 n3 hbin r2 r3 r1 t1 hgc hE
  go_wp2_with fail
  go_loopw [3, 11] (fun ov iv wr => ∃ j : Nat, j ≤ L.length ∧ iv = .int .i64 j ∧ Built w3 9 1 ov (scells ((L.take j).map Prod.snd)) wr) (fun _ iv _ => L.length - (intOf iv).toNat)
  case atStart => exact ⟨0, Nat.zero_le _, rfl, Built.nil _ _ _⟩
  case round =>
    obtain ⟨j, hj, rfl, hb1⟩ := hrel
    by_cases hlt : j < L.length
    · have o4 := o3.turn hb1.old (fun q hq hh => by have := o3.lt q hq; have h2 : w3.heap.size ≤ q := hh; omega)
      obtain ⟨b1, off, rfl⟩ := o4.addr (by omega)
      have hx := lcells_get L j hlt
      have k1 := o4.cells _ _ hx.1
      have k2 := o4.cells _ _ hx.2
      rw [← Nat.add_assoc] at k2
      unfold str at k2
      have htk : (L.take (j + 1)).map Prod.snd = (L.take j).map Prod.snd ++ [L[j].2] := by
        rw [List.take_succ_eq_append_getElem hlt, List.map_append]; rfl
      have HK := Lib.hid htk
      have htl : ((L.take j).map Prod.snd).length ≤ 3000 := by rw [List.length_map, List.length_take]; omega
      generalize L[j] = x at *
      have hj0 : (0 : Int) ≤ (j : Int) := by omega
      have hj1 : (j : Int) < (L.length : Int) := by omega
      obtain ⟨oa, on, oc, rfl, -⟩ := hb1.at_.form
      have hd1 := Lib.hid ((hb1.alloc (.cells #[.int .i64 x.1, .string ⟨x.2.toArray⟩] 28)).alloc (.cells #[.string ⟨x.2.toArray⟩] 9))
      have hnew := Lib.hid (heap_alloc_new (wr.alloc (.cells #[.int .i64 x.1, .string ⟨x.2.toArray⟩] 28)) (.cells #[.string ⟨x.2.toArray⟩] 9))
      have hnz : (wr.alloc (.cells #[.int .i64 x.1, .string ⟨x.2.toArray⟩] 28)).heap.size = wr.heap.size + 1 := by simp
      rw [hnz] at hnew
      clear hx htk o4 hb1 hnz
      go_wp2_with (at_builtin; refine wpList_append _ rfl _ _ 38 38 rfl 9 1 16 (.string ByteArray.empty) Try.underlying38 (.inr ⟨_, Try.underlying38⟩) elemStr (.slice oa on oc) _ rfl hd1.out.at_ _ _ _ rfl (Src.one rfl hnew.out) (by intro u hu; simp at hu; subst hu; rfl) (by simp [scells_length] at htl ⊢; omega) (by simp [scells_length] at htl ⊢; omega) ?_
                   intro v4 w4 hv4 ht4 hw4 hn4; clear hn4; obtain ⟨ra, rn, rc, rfl, -⟩ := hv4.form)
      exact ⟨⟨j + 1, by omega, by go_num, hd1.out.grown ht4 (by rw [HK.out, scells_append]; exact hv4) hw4⟩, by simp [intOf]; omega⟩
    · obtain rfl : j = L.length := by omega
      go_wp2
      go_ret
      rw [List.take_length, ← HE.out] at hb1
      exact ⟨_, rfl, hb1.at_, fun b hb => Nat.le_trans O3.out.size (hb1.new b hb), O3.out.trans ⟨hb1.old.os, hb1.old.tape, hb1.old.output, hb1.old.size, fun k hk hn => hb1.old.block k hk fun hh => hn (Nat.le_trans O3.out.size hh)⟩⟩

/-! ### A new console of the reference's -/
def rzeros : List Value := [nilSlice, .int .i64 0, .int .i64 0, nilSlice] ++ List.replicate 100 (.int .i64 0) ++ List.replicate 100 nilSlice ++ [.int .i64 0, nilSlice, .bool false]
theorem rzeros_info : (Try.prog.info? 52).map (fun i => (i.zero, i.size)) = some (some (.agg rzeros.toArray), 207) := by kernel_rfl
def rg0 (c : Nat) : RG := { g := { c := c, ml := 0, mf := 0, mo := 0, tv := nilSlice, sv := nilSlice, fl := fun _ => none, ff := fun _ => none, fo := fun _ => none, ρ := fun k => if k = c then (1, 0) else (0, 0) }, wv := nilSlice, wt := [], ov := fun _ => nilSlice, bg := false }
theorem rg0_cells (c : Nat) : rcells (rg0 c) CS.new = rzeros.toArray := by
  apply Array.ext'
  simp only [rcells, Array.toList_ofFn]
  kernel_rfl
theorem run_rzero (c : Nat) (w : World) : (zeroValue 52).run Try.prog w = .ok (.agg (rcells (rg0 c) CS.new)) w := by
  rw [rg0_cells]
  have h := rzeros_info
  cases hi : Try.prog.info? 52 with
  | none => rw [hi] at h; cases h
  | some i =>
    rw [hi] at h
    have h1 : i.zero = some (.agg rzeros.toArray) := by
      have := Option.some.inj h
      exact congrArg Prod.fst this
    simp [zeroValue, typeInfo, hi, h1]
theorem rg0_rep (w : World) (o : Obj) (ho : o = .cells (rcells (rg0 w.heap.size) CS.new) 52 (0, 0)) : RRep (rg0 w.heap.size) CS.new (w.alloc o) := by
  subst ho
  exact { blk := heap_alloc_new w _
          tc := by simp [rg0]
          fresh := fun k hk => by
            have hz : (w.alloc (.cells (rcells (rg0 w.heap.size) CS.new) 52 (0, 0))).heap.size = w.heap.size + 1 := by simp
            show (if k = w.heap.size then ((1, 0) : Tag) else (0, 0)).1 = 0
            rw [if_neg (by omega)]
          typed := SliceT.nil _ _ _ _ _, screen := SliceT.nil _ _ _ _ _, waiting := SliceT.nil _ _ _ _ _, own := fun k => SliceT.nil _ _ _ _ _
          lines := fun k => rfl, two := fun e => (by cases e), nb := fun _ => ⟨rfl, rfl, rfl⟩ }

set_option maxRecDepth 20000 in
set_option maxHeartbeats 2000000 in
theorem redit_calls (w0 : World) (l : Bytes) (a : Option Addr) (cap : Nat) (hin : BCells w0 a l) (hl : l.length ≤ 3000) :
    Calls Try.prog 18 #[.slice a l.length cap] w0 (EditPost w0 l) := by
  have HI := Lib.hid hin
  clear hin
  have hz := run_rzero w0.heap.size
  have r1 := rg0_rep w0 _ rfl
  obtain ⟨r, hr⟩ : ∃ x, x = rg0 w0.heap.size := ⟨_, rfl⟩
  rw [← hr] at hz r1
  have hrc : r.g.c = w0.heap.size := by rw [hr]; rfl
  have hrt : ∀ k, k < w0.heap.size → r.g.ρ k = (0, 0) := fun k hk => by rw [hr]; show (if k = w0.heap.size then ((1, 0) : Tag) else (0, 0)) = _; rw [if_neg (by omega)]
  have hrw : r.wt = [] := by rw [hr]; rfl
  have HR := Lib.hid (And.intro hrc (And.intro hrt hrw))
  clear hr hrc hrt hrw
  generalize rcells r CS.new = Z at *
  go_enter Try.func18, Try.ntmps18
  go_wp2_with fail
  have ot : Turn (fun k => w0.heap.size ≤ k) w0 (w0.alloc (.cells Z 52)) := (Turn.refl _ w0).alloc _
  have hz1 : (w0.alloc (.cells Z 52)).heap.size = w0.heap.size + 1 := by simp
  have in1 := HI.out.old ot
  have hRo : ∀ k, (w0.alloc (.cells Z 52)).heap.size ≤ k → (r.g.ρ k).1 = 0 := fun k hk => r1.fresh k hk
  generalize w0.alloc (.cells Z 52) = w1 at *
  refine (rplain_calls w1 l a cap in1 (by omega)).mono ?_
  rintro e2 w2 ⟨v2, rfl, B2⟩
  obtain ⟨pa, pn, pc, rfl, -⟩ := B2.at_.form
  obtain ⟨rfl, P2⟩ := BCells.of_slice B2.at_
  have hpl : (plainOf l).length ≤ 3000 := by have := (pst_le l).2; unfold plainOf; omega
  have r2 : RRep r CS.new w2 := r1.keep B2.old (fun k _ hk => r1.fresh k hk)
  have hbin : BIn r.g.ρ w2 pa (plainOf l) := by
    rcases P2 with h0 | ⟨b, off, rfl, hc⟩
    · exact .inl h0
    · exact .inr ⟨b, off, rfl, r1.fresh b (B2.new b rfl), B2.at_.lt b rfl, hc⟩
  have old2 : Turn (fun k => w0.heap.size ≤ k) w0 w2 := ot.trans ⟨B2.old.os, B2.old.tape, B2.old.output, B2.old.size, fun k hk hn => B2.old.block k hk fun hh => hn (Nat.le_trans ot.size hh)⟩
  have O2 := Lib.hid old2
  clear B2 P2 old2 in1 hz ot hz1 hRo
  go_wp2_with fail
  refine (rtype_calls pa pc (plainOf l) HR.out.1 r2 CS.new_ok (CS.new_small) (by omega) (by omega) (by rw [HR.out.2.2]; simp) hbin).mono ?_
  rintro e3 w3 ⟨v3, r3, rfl, h3, s3, o3, n3, b3, t3⟩
  obtain ⟨qa, qn, qc, rfl, ql, -⟩ := o3.form
  rw [lcells_length] at ql
  have hll := CS.type_lines CS.new (plainOf l)
  have old3 : Turn (fun k => w0.heap.size ≤ k) w0 w3 := O2.out.trans (s3.turn.mono fun k _ hk => by
    rcases Nat.lt_or_ge k w0.heap.size with h | h
    · rw [HR.out.2.1 k h] at hk; exact absurd rfl hk
    · exact h)
  have O3 := Lib.hid old3
  have hE : editOf l = (CS.new.type (plainOf l)).2.map Prod.snd := rfl
  generalize (CS.new.type (plainOf l)).2 = L at *
  obtain rfl : qn = L.length := by omega
  have HE := Lib.hid hE
  clear ql old3 s3 n3 hbin r2 h3 r1 hE b3 t3
  go_wp2_with fail
  go_loopw [5, 6] (fun ov iv wr => ∃ j : Nat, j ≤ L.length ∧ iv = .int .i64 j ∧ Built w3 9 1 ov (scells ((L.take j).map Prod.snd)) wr) (fun _ iv _ => L.length - (intOf iv).toNat)
  case atStart => exact ⟨0, Nat.zero_le _, rfl, Built.nil _ _ _⟩
  case round =>
    obtain ⟨j, hj, rfl, hb1⟩ := hrel
    by_cases hlt : j < L.length
    · have o4 := o3.turn hb1.old (fun q hq hh => by have := o3.lt q hq; have h2 : w3.heap.size ≤ q := hh; omega)
      obtain ⟨b1, off, rfl⟩ := o4.addr (by omega)
      have hx := lcells_get L j hlt
      have k1 := o4.cells _ _ hx.1
      have k2 := o4.cells _ _ hx.2
      rw [← Nat.add_assoc] at k2
      unfold str at k2
      have htk : (L.take (j + 1)).map Prod.snd = (L.take j).map Prod.snd ++ [L[j].2] := by
        rw [List.take_succ_eq_append_getElem hlt, List.map_append]; rfl
      have HK := Lib.hid htk
      have htl : ((L.take j).map Prod.snd).length ≤ 3000 := by rw [List.length_map, List.length_take]; omega
      generalize L[j] = x at *
      have hj0 : (0 : Int) ≤ (j : Int) := by omega
      have hj1 : (j : Int) < (L.length : Int) := by omega
      obtain ⟨oa, on, oc, rfl, -⟩ := hb1.at_.form
      have hd1 := Lib.hid (hb1.alloc (.cells #[.string ⟨x.2.toArray⟩] 9))
      clear hx htk o4 hb1
      go_wp2_with (at_builtin; refine wpList_append _ rfl _ _ 38 38 rfl 9 1 16 (.string ByteArray.empty) Try.underlying38 (.inr ⟨_, Try.underlying38⟩) elemStr (.slice oa on oc) _ rfl hd1.out.at_ _ _ _ rfl (Src.one rfl (heap_alloc_new wr _)) (by intro u hu; simp at hu; subst hu; rfl) (by simp [scells_length] at htl ⊢; omega) (by simp [scells_length] at htl ⊢; omega) ?_
                   intro v4 w4 hv4 ht4 hw4 hn4; clear hn4; obtain ⟨ra, rn, rc, rfl, -⟩ := hv4.form)
      exact ⟨⟨j + 1, by omega, by go_num, hd1.out.grown ht4 (by rw [HK.out, scells_append]; exact hv4) hw4⟩, by simp [intOf]; omega⟩
    · obtain rfl : j = L.length := by omega
      go_wp2
      go_ret
      rw [List.take_length, ← HE.out] at hb1
      exact ⟨_, rfl, hb1.at_, fun b hb => Nat.le_trans O3.out.size (hb1.new b hb), O3.out.trans ⟨hb1.old.os, hb1.old.tape, hb1.old.output, hb1.old.size, fun k hk hn => hb1.old.block k hk fun hh => hn (Nat.le_trans O3.out.size hh)⟩⟩
end Go.Con
