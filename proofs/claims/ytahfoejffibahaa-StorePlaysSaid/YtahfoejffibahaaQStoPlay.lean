/-
  Play, walked: over what a player's calls do.
-/
import Derived.Deep.LoopGhost
import Derived.StillTailTactics
import Derived.Test.YtahfoejffibahaaQStoDoPut
set_option linter.unusedVariables false

namespace Go.Sto
open Go.Own Go.RowKit Go.Proofs

/-- A player's call is as the model has it. -/
def DoOk (what : Int) : Prop := ∀ {w0 w : World} {g : Ghost} {pb : Nat} {S : St} {m : Lab} {gv tv lv : Value} {gave took live : List Int}, PM w0 g pb S m gv tv lv gv tv lv gave took live w → live.length ≤ 1000 → took.length ≤ 1000 → ∀ k : Int, (Lit.int .i64 k).wf = true →
  Calls Try.prog 40 #[.pointer (some ⟨pb, 0, none⟩), .int .i64 what, .int .i64 k] w (DoPost w0 g pb gv tv gave took (doM S took live what k))

theorem doOk_get : DoOk 0 := fun h hl _ k _ => do_get h hl k

theorem doOk_put : DoOk 1 := fun {w0 w g pb S m gv tv lv gave took live} h hl ht k _ => by
  by_cases hk : k < 0 ∨ took.length ≤ k ∨ took.getD k.toNat 0 = 0
  · have e : doM S took live 1 k = (S, live, 0) := by unfold doM; rw [if_neg (by decide), if_pos rfl, if_pos hk]
    rw [e]; exact do_put_off h k hk
  · have e : doM S took live 1 k = ((put S (took.getD k.toNat 0)).1, if (put S (took.getD k.toNat 0)).2 = 0 then live.filter (fun x => x != took.getD k.toNat 0) else live, toldM 0 (put S (took.getD k.toNat 0)).2) := by unfold doM; rw [if_neg (by decide), if_pos rfl, if_neg hk]
    rw [e]
    obtain ⟨j, rfl⟩ := Int.eq_ofNat_of_zero_le (by omega : 0 ≤ k)
    simp only [Int.toNat_natCast] at hk ⊢
    have hj : j < took.length := by omega
    refine do_put_on h hl j _ ?_ (by omega)
    rw [List.getElem?_eq_getElem hj]; simp [List.getD, hj]

structure PS where
  S : St
  gave : List Int
  took : List Int
  live : List Int

def PS.step (p : PS) (c : Int × Int) : PS :=
  let d := doM p.S p.took p.live c.1 c.2
  { S := d.1, gave := p.gave ++ [d.2.2], took := p.took ++ [max 0 d.2.2], live := d.2.1 }

def PM1 (w0 : World) (g0 : Ghost) (pb : Nat) (p : PS) (w : World) : Prop := ∃ g m gv tv lv, PM w0 g pb p.S m gv tv lv gv tv lv p.gave p.took p.live w ∧ g.s = g0.s ∧ g.n = g0.n

def badCall (c : Int × Int) : Bool := decide (c.1 < 0) || decide (2 < c.1)

theorem play1_calls (x y : Int) (w : World) : Calls Try.prog 39 #[.agg #[.int .i64 x, .int .i64 y]] w fun e w' => e = .returned (.bool (badCall (x, y))) ∧ Below w.heap.size w w' := by
  by_cases h0 : x < 0
  · have q1 : decide (x < 0) = true := decide_eq_true h0
    have e1 : badCall (x, y) = true := by simp [badCall, h0]
    rw [e1]
    go_enter Try.func39, Try.ntmps39
    go_wp2
    go_ret
    exact ⟨rfl, (Below.refl _ w).alloc (Nat.le_refl _) _⟩
  · have q1 : decide (x < 0) = false := decide_eq_false h0
    have e1 : badCall (x, y) = decide (2 < x) := by simp [badCall, h0]
    rw [e1]
    go_enter Try.func39, Try.ntmps39
    go_wp2
    go_ret
    exact ⟨rfl, (Below.refl _ w).alloc (Nat.le_refl _) _⟩

theorem live_len (S : St) (took live : List Int) (what k : Int) : (doM S took live what k).2.1.length ≤ live.length + 1 := by
  unfold doM
  split
  · simp only; split
    · simp
    · omega
  · split
    · split
      · simp
      · simp only; split
        · exact Nat.le_trans (List.length_filter_le _ _) (Nat.le_succ _)
        · simp
    · split
      · simp
      · simp only; split
        · simp only [List.length_append, List.length_dropLast, List.length_cons, List.length_nil]; omega
        · simp

theorem play_lens : ∀ (l : List (Int × Int)) (p : PS), (l.foldl PS.step p).took.length = p.took.length + l.length ∧ (l.foldl PS.step p).gave.length = p.gave.length + l.length ∧ (l.foldl PS.step p).live.length ≤ p.live.length + l.length
  | [], p => ⟨rfl, rfl, Nat.le_refl _⟩
  | c :: l, p => by
    obtain ⟨h1, h2, h3⟩ := play_lens l (p.step c)
    have h4 := live_len p.S p.took p.live c.1 c.2
    simp only [List.foldl_cons, List.length_cons]
    have e1 : (p.step c).took.length = p.took.length + 1 := by simp [PS.step]
    have e2 : (p.step c).gave.length = p.gave.length + 1 := by simp [PS.step]
    have e3 : (p.step c).live.length ≤ p.live.length + 1 := h4
    omega

def playEnd (l : List (Int × Int)) (n : Nat) : PS := l.foldl PS.step ⟨newS n, [], [], []⟩

def PE (w1 : World) (L : Value → World → Prop) (s : Nat) (ξ : Nat → Value) (w : World) : Prop :=
  match s with
  | 0 => w = w1
  | 1 => L (ξ 5) w
  | _ => L (ξ 5) w ∧ ξ 7 = ξ 5

def PlayPost (w0 : World) (n : Nat) (l : List (Int × Int)) (e : Ending) (w' : World) : Prop :=
  ∃ v bv, e = .returned (.tuple #[v, bv, .int .i64 0]) ∧ SliceAt w' 3 1 v (icells (playEnd l n).gave) ∧ SliceAt w' 46 3 bv (blkCells (blocks 0 (playEnd l n).S)) ∧ Old w0 w'

set_option maxRecDepth 100000 in
set_option maxHeartbeats 4000000 in
theorem play_good {w0 : World} (n : Nat) (h0 : 4 ≤ n) (h1 : n ≤ 32000) (h2 : n % 2 = 0) (l : List (Int × Int)) (a : Option Addr) (cap : Nat) (hin : PIn w0 a l) (hl : l.length ≤ 400) (hok : ∀ p ∈ l, DoOk p.1) (hwf : ∀ p ∈ l, (Lit.int .i64 p.1).wf = true ∧ (Lit.int .i64 p.2).wf = true)
    (hcf : ∀ w, PIn w a l → Calls Try.prog 38 #[.slice a l.length cap, .func (.func 39) #[] #[]] w fun e w' => e = .returned (.bool false) ∧ Below w.heap.size w w') :
    Calls Try.prog 13 #[.int .i64 n, .slice a l.length cap] w0 (PlayPost w0 n l) := by
  have q2 : decide ((400 : Int) < (l.length : Int)) = false := by simp; omega
  have q3 : decide (400 < l.length) = false := by simp; omega
  have HI := Lib.hid (And.intro hin (And.intro hok hwf))
  clear hin hok hwf
  go_enter Try.func13, Try.ntmps13
  go_wp2_with fail
  refine (new_good n h0 h1 h2 w0).mono ?_
  rintro e1 w1 ⟨g1, rfl, hgn, r1, hB1, htag, hk1⟩
  have hold1 : Old w0 w1 := ⟨hB1.os, hB1.tape, hB1.output, hB1.size, fun k hk _ => hB1.block k hk⟩
  have hcf1 := Lib.hid (hcf w1 (HI.out.1.old hold1))
  have hpg : ∀ k, k < w0.heap.size → (g1.ρ k).1 = 0 := fun k hk => by rw [htag k hk]
  have H1 := Lib.hid (And.intro r1 (And.intro hgn (And.intro hold1 hpg)))
  clear r1 hB1 htag hk1 hgn hold1 hpg hcf
  go_wp2_with fail
  refine hcf1.out.mono ?_
  rintro e2 w2 ⟨rfl, hB2⟩
  have H2 : Hid (Repo g1 (newS n) w2 ∧ Old w0 w2 ∧ ∀ k, k < w0.heap.size → (g1.ρ k).1 = 0) := Lib.hid ⟨⟨H1.out.1.rep.below hB2 (Nat.le_refl _), H1.out.1.ok⟩, ⟨hB2.os.trans H1.out.2.2.1.os, hB2.tape.trans H1.out.2.2.1.tape, hB2.output.trans H1.out.2.2.1.output, Nat.le_trans H1.out.2.2.1.size hB2.size, fun k hk hn => (hB2.block k (Nat.lt_of_lt_of_le hk H1.out.2.2.1.size)).trans (H1.out.2.2.1.block k hk hn)⟩, H1.out.2.2.2⟩
  have start : PM1 w0 g1 w2.heap.size ⟨newS n, [], [], []⟩ (w2.alloc (.cells #[.pointer (some ⟨g1.s, 0, none⟩), .slice none 0 0, .slice none 0 0, .slice none 0 0] 73)) := by
    have hz := H2.out.2.1.size
    have hB3 : Below w2.heap.size w2 (w2.alloc (.cells #[.pointer (some ⟨g1.s, 0, none⟩), .slice none 0 0, .slice none 0 0, .slice none 0 0] 73)) := (Below.refl _ w2).alloc (Nat.le_refl _) _
    refine ⟨g1, fun k => if k = w2.heap.size then 1 else 0, _, _, _, { repo := ⟨H2.out.1.rep.below hB3 (Nat.le_refl _), H2.out.1.ok⟩, blk := heap_alloc_new w2 _, lp := if_pos rfl, gs := ⟨SliceAt.nil _ _ _, fun b hb => by simp [Value.ownBlock] at hb⟩, ts := ⟨SliceAt.nil _ _ _, fun b hb => by simp [Value.ownBlock] at hb⟩, ls := ⟨SliceAt.nil _ _ _, fun b hb => by simp [Value.ownBlock] at hb⟩, own := ?_, fresh := ?_, old := ?_, tags := H2.out.2.2 }, rfl, rfl⟩
    · intro k hk
      have : k = w2.heap.size := by
        by_cases e : k = w2.heap.size
        · exact e
        · simp [e] at hk
      subst this
      exact ⟨H2.out.1.rep.fresh _ (Nat.le_refl _), hz⟩
    · intro k hk
      simp at hk
      exact if_neg (by omega)
    · exact H2.out.2.1.alloc _
  obtain ⟨pb, hpb⟩ : ∃ pb, w2.heap.size = pb := ⟨_, rfl⟩
  obtain ⟨w3, hw3⟩ : ∃ w3, w2.alloc (.cells #[.pointer (some ⟨g1.s, 0, none⟩), .slice none 0 0, .slice none 0 0, .slice none 0 0] 73) = w3 := ⟨_, rfl⟩
  have HS := Lib.hid (And.intro start (And.intro hpb hw3))
  clear start hB2 hpb hw3
  go_wp2_with fail
  have hpb := HS.out.2.1
  have hw3 := HS.out.2.2
  rw [hw3, hpb]
  have HS1 := Lib.hid HS.out.1
  rw [hpb, hw3] at HS1
  clear HS hpb hw3 H2 H1 hcf1
  go_loopg [34] (l.length) (fun k i wr => ∃ j : Nat, k + j = l.length ∧ i = .int .i64 j ∧ PM1 w0 g1 pb ((l.take j).foldl PS.step ⟨newS n, [], [], []⟩) wr)
  case atStart => exact ⟨0, rfl, rfl, HS1.out⟩
  case round =>
    obtain ⟨j, hk, rfl, hPM⟩ := hrel
    obtain ⟨p, hp⟩ : ∃ p, (l.take j).foldl PS.step ⟨newS n, [], [], []⟩ = p := ⟨_, rfl⟩
    rw [hp] at hPM
    have hlens : p.took.length ≤ j ∧ p.live.length ≤ j ∧ p.gave.length ≤ j := by
      have := play_lens (l.take j) ⟨newS n, [], [], []⟩
      rw [hp] at this
      simp only [List.length_take, List.length_nil] at this
      omega
    obtain ⟨g, m, gv, tv, lv, hM, hgs, hgn⟩ := hPM
    have HM := Lib.hid (And.intro hM (And.intro hgs hgn))
    have HP := Lib.hid hp
    clear hM hgs hgn hp
    by_cases hlt : j < l.length
    · obtain ⟨c, hc⟩ : ∃ c, l[j]? = some c := ⟨_, List.getElem?_eq_getElem hlt⟩
      obtain ⟨b, off, rfl, hcc⟩ := (HI.out.1.old HM.out.1.old).resolve_left (by intro e; rw [e] at hlt; simp at hlt)
      obtain ⟨c0, c1⟩ := hcc j c hc
      have hcl := List.mem_of_getElem? hc
      obtain ⟨x, y⟩ := c
      simp only at c0 c1
      have hdo := HI.out.2.1 _ hcl (HM.out.1.below ((Below.refl wr.heap.size wr).alloc (Nat.le_refl _) (.cells #[.int .i64 x, .int .i64 y] 67))) (by omega) (by omega) y (HI.out.2.2 _ hcl).2
      have HD := Lib.hid hdo
      have HC := Lib.hid hc
      clear hdo hc hcc hcl
      go_wp2_with fail
      refine HD.out.mono ?_
      rintro e4 w4 ⟨rfl, g4, m4, lv4, hM4, hg4s, hg4n⟩
      obtain ⟨d, hd⟩ : ∃ d, doM p.S p.took p.live x y = d := ⟨_, rfl⟩
      have hM4' := hM4
      rw [hd] at hM4' ⊢
      have HM4 := Lib.hid (And.intro hM4' (And.intro (hg4s.trans HM.out.2.1) (And.intro (hg4n.trans HM.out.2.2) hd)))
      clear hM4 hM4' hg4s hg4n hd
      obtain ⟨dv, hdv⟩ : ∃ v, d.2.2 = v := ⟨_, rfl⟩
      have HV := Lib.hid hdv
      rw [hdv]
      clear hdv
      have hmx : (if (0 : Int) < dv then dv else 0) = max 0 dv := by split <;> omega
      go_wp2_with fail
      refine wp_region_planH (aX := ?aXr) [7, 8, 15, 16, 19, 22] [[], [7], [15], [7, 8], [7, 15], [7, 8, 15], [7, 8, 15, 16], [7, 8, 15, 16, 19], [7, 8, 15, 16, 19, 22]] 8 [(0, 0, 0), (0, 1, 1), (0, 2, 2), (0, 3, 3), (0, 4, 4), (0, 5, 5), (0, 6, 6), (1, 0, 0), (1, 1, 1), (1, 2, 2), (1, 3, 3), (1, 4, 4), (1, 5, 5), (1, 6, 6), (1, 7, 7), (2, 0, 0), (2, 1, 1), (2, 2, 2), (2, 3, 3), (2, 4, 4), (2, 5, 5), (2, 6, 6), (3, 0, 0), (3, 1, 1), (3, 2, 2), (3, 4, 4), (4, 0, 0), (4, 1, 1), (4, 2, 2), (4, 4, 4), (5, 0, 0), (5, 1, 1), (5, 2, 2), (5, 4, 4), (6, 0, 0), (6, 2, 2), (7, 0, 1), (7, 2, 4), (8, 1, 3), (8, 4, 5), (9, 0, 0), (9, 1, 1), (9, 2, 2), (9, 3, 3), (9, 4, 4), (9, 5, 5), (9, 6, 6), (9, 7, 7), (10, 0, 0), (10, 1, 1), (10, 2, 2), (10, 3, 3), (10, 4, 4), (10, 5, 5), (11, 0, 0), (11, 1, 1), (11, 2, 2), (11, 3, 3), (11, 4, 4), (11, 5, 5), (12, 0, 0), (12, 1, 1), (12, 2, 2), (12, 3, 3), (12, 4, 4), (12, 5, 5), (13, 0, 0), (13, 1, 1), (13, 3, 3), (14, 0, 0), (14, 1, 1), (14, 3, 3), (15, 0, 2), (15, 1, 4), (15, 3, 5), (16, 5, 6), (17, 6, 6), (18, 6, 6), (19, 6, 7), (20, 7, 7), (21, 7, 7), (22, 7, 8)]
        [.pointer (some ⟨pb, 0, none⟩), .pointer (some ⟨pb, 0, none⟩), .pointer (some ⟨pb, 0, none⟩), .pointer (some ⟨pb, 0, none⟩), .pointer (some ⟨pb, 1, none⟩), gv, .int .i64 dv, undef, undef, .pointer (some ⟨pb, 0, none⟩), .pointer (some ⟨pb, 0, none⟩), .pointer (some ⟨pb, 2, none⟩), tv, .int .i64 dv, .int .i64 (max 0 dv), undef, undef, .pointer (some ⟨pb, 0, none⟩), .pointer (some ⟨pb, 1, none⟩), undef, .pointer (some ⟨pb, 0, none⟩), .pointer (some ⟨pb, 2, none⟩), undef] (RS w0 g4 pb d.1 gv tv lv4 p.gave p.took d.2.1 dv (max 0 dv)) (by kernel_rfl) (by kernel_rfl) rfl ?hXr (fun _ => undef) ?h0r ?hobr ?hendr
      case hXr => intro ξ; simp only [mixAll, Act.put]; go_simp; rfl
      case h0r => exact ⟨_, RI.start HM4.out.1.drew _⟩
      case hobr =>
        repeat' (first
          | exact oblsH_nil
          | (refine oblsH_cons rfl ?_ ?_)
          | exact stepH_value rfl rfl (fun _ _ _ => rfl))
        · refine stepH_value rfl rfl ?_
          rintro ξ w ⟨m, h⟩
          have c := RI.load5 h
          clear h
          show _ = _
          go_simp
          rfl
        · refine stepH_value rfl rfl ?_
          rintro ξ w ⟨m, h⟩
          have c := RI.load5 h
          clear h
          show _ = _
          go_simp
          rfl
        · refine stepH_value rfl rfl ?_
          rintro ξ w ⟨m, h⟩
          have c := RI.load5 h
          clear h
          show _ = _
          go_simp
          rfl
        · refine stepH_value rfl rfl ?_
          rintro ξ w ⟨m, h⟩
          have c := RI.load5 h
          clear h
          show _ = _
          go_simp
          rfl
        · refine stepH_make rfl rfl ?_
          rintro ξ w ⟨m, h⟩
          obtain ⟨m', h'⟩ := RI.mk7 h
          clear h
          refine ⟨_, _, ?_, m', h'⟩
          go_simp
        · refine stepH_make rfl rfl ?_
          rintro ξ w ⟨m, h⟩
          obtain ⟨m', h'⟩ := RI.mk7 h
          clear h
          refine ⟨_, _, ?_, m', h'⟩
          go_simp
        · refine stepH_append rfl rfl _ _ _ _ rfl ?_
          rintro ξ w ⟨m, h⟩
          obtain ⟨v', w', hr, m', h'⟩ := RI.app8 h (by omega) 24
          exact ⟨v', w', hr, m', h'⟩
        · refine stepH_append rfl rfl _ _ _ _ rfl ?_
          rintro ξ w ⟨m, h⟩
          obtain ⟨v', w', hr, m', h'⟩ := RI.app8 h (by omega) 24
          exact ⟨v', w', hr, m', h'⟩
        · refine stepH_value rfl rfl ?_
          rintro ξ w ⟨m, h⟩
          have c := RI.load12 h
          clear h
          show _ = _
          go_simp
          rfl
        · refine stepH_value rfl rfl ?_
          rintro ξ w ⟨m, h⟩
          have c := RI.load12 h
          clear h
          show _ = _
          go_simp
          rfl
        · refine stepH_value rfl rfl ?_
          rintro ξ w ⟨m, h⟩
          have c := RI.load12 h
          clear h
          show _ = _
          go_simp
          rfl
        · refine stepH_value rfl rfl ?_
          rintro ξ w ⟨m, h⟩
          have c := RI.load12 h
          clear h
          show _ = _
          go_simp
          rfl
        · refine stepH_value rfl rfl ?_
          rintro ξ w ⟨m, h⟩
          have c := RI.load12 h
          clear h
          show _ = _
          go_simp
          rfl
        · refine stepH_value rfl rfl ?_
          rintro ξ w ⟨m, h⟩
          have c := RI.load12 h
          clear h
          show _ = _
          go_simp
          rfl
        · refine stepH_value rfl rfl ?_
          rintro ξ w -
          go_simp
          rfl
        · refine stepH_value rfl rfl ?_
          rintro ξ w -
          go_simp
          rfl
        · refine stepH_value rfl rfl ?_
          rintro ξ w -
          go_simp
          rfl
        · refine stepH_make rfl rfl ?_
          rintro ξ w ⟨m, h⟩
          obtain ⟨m', h'⟩ := RI.mk15 h
          clear h
          refine ⟨_, _, ?_, m', h'⟩
          go_simp
        · refine stepH_make rfl rfl ?_
          rintro ξ w ⟨m, h⟩
          obtain ⟨m', h'⟩ := RI.mk15 h
          clear h
          refine ⟨_, _, ?_, m', h'⟩
          go_simp
        · refine stepH_make rfl rfl ?_
          rintro ξ w ⟨m, h⟩
          obtain ⟨m', h'⟩ := RI.mk15 h
          clear h
          refine ⟨_, _, ?_, m', h'⟩
          go_simp
        · refine stepH_append rfl rfl _ _ _ _ rfl ?_
          rintro ξ w ⟨m, h⟩
          obtain ⟨v', w', hr, m', h'⟩ := RI.app16 h (by omega) 24
          exact ⟨v', w', hr, m', h'⟩
        · refine stepH_store rfl rfl rfl ?_
          rintro ξ w ⟨m, h⟩
          obtain ⟨m', h'⟩ := RI.sto19 h
          obtain ⟨c0, c⟩ := RI.load5' h
          have c2 := RI.old h
          obtain ⟨pa, pn, pc, hv, -⟩ := h.pm.gs.1.form
          have hv' : ξ 8 = .slice pa pn pc := hv
          clear hv h
          refine ⟨_, ?_, m', h'⟩
          clear h'
          go_simp
        · refine stepH_store rfl rfl rfl ?_
          rintro ξ w ⟨m, h⟩
          obtain ⟨m', h'⟩ := RI.sto22 h
          obtain ⟨c0, c⟩ := RI.load12' h
          have c2 := RI.old h
          obtain ⟨pa, pn, pc, hv, -⟩ := h.pm.ts.1.form
          have hv' : ξ 16 = .slice pa pn pc := hv
          clear hv h
          refine ⟨_, ?_, m', h'⟩
          clear h'
          go_simp
      case hendr =>
        rintro ξ w5 ⟨m5, h5⟩
        have H5 := Lib.hid h5.pm
        clear h5
        go_wp2_with fail
        go_roundg (gk - 1)
        case measure => omega
        case rel =>
          refine ⟨j + 1, by omega, by simp, ?_⟩
          have e1 : (l.take (j + 1)).foldl PS.step ⟨newS n, [], [], []⟩ = p.step (x, y) := by
            rw [List.take_add_one, HC.out, List.foldl_append, HP.out]; rfl
          rw [e1]
          have e2 := HM4.out.2.2.2
          have e3 := HV.out
          subst e2
          subst e3
          exact ⟨g4, m5, _, _, _, H5.out, HM4.out.2.1, HM4.out.2.2.1⟩
    · have hj : j = l.length := by omega
      subst hj
      have hpe : p = playEnd l n := by
        have := HP.out
        rw [List.take_length] at this
        exact this.symm
      have c1 : wr.cell? ⟨pb, 1, none⟩ = some gv := cell_at HM.out.1.blk rfl
      obtain ⟨pa, pn, pc, rfl, -⟩ := HM.out.1.gs.1.form
      have HB := Lib.hid (blocks_calls HM.out.1.drew.repo HM.out.2.1)
      clear hlens
      go_wp2_with fail
      refine wp_region_planH (aX := ?aXe) [5, 7] [[], [5], [5, 7]] 2 [(0, 0, 0), (0, 1, 1), (1, 0, 0), (1, 1, 1), (2, 0, 0), (2, 1, 1), (3, 0, 0), (3, 1, 1), (4, 0, 0), (5, 0, 1), (6, 1, 1), (7, 1, 2), (8, 2, 2)]
        [.pointer (some ⟨pb, 0, none⟩), .pointer (some ⟨pb, 0, none⟩), .pointer (some ⟨pb, 1, none⟩), .slice pa pn pc, .pointer (some ⟨g1.s, 0, none⟩), undef, .slice pa pn pc, undef, .int .i64 0] (PE wr.drew (fun v w => SliceAt w 46 3 v (blkCells (blocks 0 p.S)) ∧ Below wr.drew.heap.size wr.drew w)) (by kernel_rfl) (by kernel_rfl) rfl ?hXe (fun _ => undef) ?h0e ?hobe ?hende
      case hXe => intro ξ; simp only [mixAll, Act.put]; go_simp; rfl
      case h0e => exact rfl
      case hobe =>
        refine oblsH_cons rfl (stepH_value rfl rfl (fun _ _ _ => rfl)) ?_
        refine oblsH_cons rfl (stepH_value rfl rfl (fun _ _ _ => rfl)) ?_
        refine oblsH_cons rfl (stepH_value rfl rfl (fun _ _ _ => rfl)) ?_
        refine oblsH_cons rfl (stepH_value rfl rfl (fun _ _ _ => rfl)) ?_
        refine oblsH_cons rfl (stepH_value rfl rfl (fun _ _ _ => rfl)) ?_
        refine oblsH_cons rfl (stepH_value rfl rfl (fun _ _ _ => rfl)) ?_
        refine oblsH_cons rfl (stepH_value rfl rfl ?_) ?_
        · rintro ξ w h
          have hw : w = wr.drew := h
          subst hw
          go_simp
          rfl
        refine oblsH_cons rfl (stepH_value rfl rfl ?_) ?_
        · rintro ξ w h
          have hw : SliceAt w 46 3 (ξ 5) (blkCells (blocks 0 p.S)) ∧ Below wr.drew.heap.size wr.drew w := h
          have c := (hw.2.cell (p := ⟨pb, 1, none⟩) (heap_lt HM.out.1.blk)).trans c1
          clear hw h
          go_simp
          rfl
        refine oblsH_cons rfl (stepH_value rfl rfl (fun _ _ _ => rfl)) ?_
        refine oblsH_cons rfl (stepH_call rfl rfl ?_) ?_
        · rintro ξ w h
          have hw : w = wr.drew := h
          subst hw
          refine ⟨22, #[.pointer (some ⟨g1.s, 0, none⟩)], ?_, ?_⟩
          · go_simp
          · refine HB.out.mono ?_
            rintro e4 w4 ⟨v4, rfl, hs4, hB4, -⟩
            exact ⟨v4, rfl, hs4, hB4⟩
        refine oblsH_cons rfl (stepH_value rfl rfl (fun _ _ _ => rfl)) ?_
        refine oblsH_cons rfl (stepH_make rfl rfl ?_) ?_
        · rintro ξ w h
          exact ⟨ξ 5, w, rfl, h, rfl⟩
        refine oblsH_cons rfl (stepH_value rfl rfl (fun _ _ _ => rfl)) ?_
        exact oblsH_nil
      case hende =>
        rintro ξ w4 ⟨⟨h1, h2⟩, h3⟩
        go_wp2_with fail
        go_ret3
        subst hpe
        rw [h3]
        exact ⟨_, _, rfl, (HM.out.1.drew.below h2).gs.1, h1, (HM.out.1.drew.below h2).old⟩
end Go.Sto
