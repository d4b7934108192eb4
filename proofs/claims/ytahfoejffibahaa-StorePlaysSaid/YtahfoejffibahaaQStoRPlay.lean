/-
  The reference's play, walked.
-/
import Derived.Deep.LoopGhost
import Derived.Deep.CutRange
import Derived.Deep.CutBlock
import Derived.Test.YtahfoejffibahaaQStoRPlayer
import Derived.Test.YtahfoejffibahaaQStoRPlayPuts
import Derived.Test.YtahfoejffibahaaQStoRPlayGrown
import Derived.Test.YtahfoejffibahaaQStoRestPure
set_option linter.unusedVariables false

namespace Go.Sto
open Go.Own Go.RowKit Go.Proofs

theorem rblocks_eqP : ∀ (L : List RN) (S : St) (k : Nat), L.map (fun x => (x.n, x.u)) = S.map (fun b => (b.size, b.used)) → rblocks k L = blocks k S
  | [], [], _, _ => rfl
  | [], _ :: _, _, h => by simp at h
  | _ :: _, [], _, h => by simp at h
  | x :: L, b :: S, k, h => by
    simp only [List.map_cons, List.cons.injEq, Prod.mk.injEq] at h
    obtain ⟨⟨h1, h2⟩, h3⟩ := h
    simp only [rblocks, blocks, h1, h2]
    rw [rblocks_eqP L S _ h3]

theorem ref_startP (w : World) (n : Nat) (h0 : 4 ≤ n) (h1 : n ≤ 32000) :
    RC (((w.alloc (.cells #[.slice (some ⟨w.heap.size + 2, 0, none⟩) 1 1] 59)).alloc (.cells (icells (zeros n)).toArray 3)).alloc (.cells #[.slice (some ⟨w.heap.size + 1, 0, none⟩) n n, .bool false] 108)) (.slice (some ⟨w.heap.size + 2, 0, none⟩) 1 1) [⟨some ⟨w.heap.size + 1, 0, none⟩, n, n, false⟩] (newS n) := by
  have hA : (((w.alloc (.cells #[.slice (some ⟨w.heap.size + 2, 0, none⟩) 1 1] 59)).alloc (.cells (icells (zeros n)).toArray 3)).alloc (.cells #[.slice (some ⟨w.heap.size + 1, 0, none⟩) n n, .bool false] 108)).heap[w.heap.size + 2]? = some (.cells #[.slice (some ⟨w.heap.size + 1, 0, none⟩) n n, .bool false] 108 (0, 0)) := by
    have := heap_alloc_new ((w.alloc (.cells #[.slice (some ⟨w.heap.size + 2, 0, none⟩) 1 1] 59)).alloc (.cells (icells (zeros n)).toArray 3)) (.cells #[.slice (some ⟨w.heap.size + 1, 0, none⟩) n n, .bool false] 108)
    simpa using this
  have hW : (((w.alloc (.cells #[.slice (some ⟨w.heap.size + 2, 0, none⟩) 1 1] 59)).alloc (.cells (icells (zeros n)).toArray 3)).alloc (.cells #[.slice (some ⟨w.heap.size + 1, 0, none⟩) n n, .bool false] 108)).heap[w.heap.size + 1]? = some (.cells (icells (zeros n)).toArray 3 (0, 0)) := by
    refine (heap_alloc_lt _ _ _ (by simp)).trans ?_
    have := heap_alloc_new (w.alloc (.cells #[.slice (some ⟨w.heap.size + 2, 0, none⟩) 1 1] 59)) (.cells (icells (zeros n)).toArray 3)
    simpa using this
  refine ⟨?_, rfl, fun i x b h1 h2 => ?_⟩
  · have := SliceAt.made (sz := 2) hA (n := 1) rfl (by unfold maxLen; omega)
    exact this
  · cases i with
    | zero =>
      simp [newS] at h1 h2
      subst h1; subst h2
      refine ⟨rfl, rfl, zeros n, by simp [zeros, hole], ?_, fun e => by simp [hole] at e⟩
      have := SliceAt.made (sz := 1) hW (n := n) (by simp [zeros]) (by unfold maxLen; omega)
      simpa [RN.val] using this
    | succ i => simp at h1

theorem rplay_lens1 (q : RP) (c : Int × Int) : (q.step c).gave.length = q.gave.length + 1 ∧ (q.step c).works.length = q.works.length + 1 ∧ (q.step c).got.length ≤ q.got.length + 1 := by
  unfold RP.step
  split
  · simp only
    split <;> simp
  · split
    · have e : (rputM q c.2).1.gave = q.gave ∧ (rputM q c.2).1.works = q.works ∧ (rputM q c.2).1.got.length = q.got.length := by
        unfold rputM
        split
        · simp
        · simp only; split <;> simp
      simp [e.1, e.2.1, e.2.2]
    · have e : (rgrownM q c.2).1.gave = q.gave ∧ (rgrownM q c.2).1.works = q.works ∧ (rgrownM q c.2).1.got.length = q.got.length := by
        unfold rgrownM
        split
        · simp
        · simp only; split <;> simp
      simp [e.1, e.2.1, e.2.2]
theorem rplay_lens : ∀ (l : List (Int × Int)) (q : RP), (l.foldl RP.step q).gave.length = q.gave.length + l.length ∧ (l.foldl RP.step q).works.length = q.works.length + l.length ∧ (l.foldl RP.step q).got.length ≤ q.got.length + l.length
  | [], q => by simp
  | c :: l, q => by
    have h1 := rplay_lens1 q c
    have h2 := rplay_lens l (q.step c)
    simp only [List.foldl_cons, List.length_cons]
    omega

/-- What a call does ahead of the two appends. -/
def RP.act (q : RP) (c : Int × Int) : RP × Int × Bool :=
  if c.1 = 0 then
    (if (get q.S c.2).2.2 = 0 then ({ q with S := (get q.S c.2).1, got := q.got ++ [(get q.S c.2).2.1] }, (get q.S c.2).2.1, true) else ({ q with S := (get q.S c.2).1 }, -(get q.S c.2).2.2, false))
  else if c.1 = 1 then ((rputM q c.2).1, (rputM q c.2).2, false) else rgrownM q c.2
theorem step_act (q : RP) (c : Int × Int) {q2 : RP} {v : Int} {b : Bool} (h : q.act c = (q2, v, b)) : q.step c = { q2 with gave := q2.gave ++ [v], works := q2.works ++ [b] } := by
  unfold RP.act at h
  unfold RP.step
  split at h
  · rename_i h0
    rw [if_pos h0]
    simp only
    split at h <;> (rename_i h1; first | rw [if_pos h1] | rw [if_neg h1]) <;> (cases h; rfl)
  · rename_i h0
    rw [if_neg h0]
    split at h
    · rename_i h1
      rw [if_pos h1]
      cases h; rfl
    · rename_i h1
      rw [if_neg h1]
      simp only [h]
theorem act_lens (q : RP) (c : Int × Int) {q2 : RP} {v : Int} {b : Bool} (h : q.act c = (q2, v, b)) : q2.gave = q.gave ∧ q2.works = q.works ∧ q2.got.length ≤ q.got.length + 1 := by
  have h1 := rplay_lens1 q c
  rw [step_act q c h] at h1
  simp only [List.length_append, List.length_cons, List.length_nil] at h1
  refine ⟨?_, ?_, h1.2.2⟩ <;> (unfold RP.act at h; split at h)
  · split at h <;> (cases h; rfl)
  · split at h
    · cases h
      unfold rputM
      split
      · rfl
      · rfl
    · have e : (rgrownM q c.2).1.gave = q.gave := by
        unfold rgrownM
        split
        · rfl
        · simp only; split <;> rfl
      rw [h] at e; exact e
  · split at h <;> (cases h; rfl)
  · split at h
    · cases h
      unfold rputM
      split
      · rfl
      · rfl
    · have e : (rgrownM q c.2).1.works = q.works := by
        unfold rgrownM
        split
        · rfl
        · simp only; split <;> rfl
      rw [h] at e; exact e

def RMid (w0 : World) (pb : Nat) (q : RP) (gv wv : Value) (c : Int × Int) (v ok : Value) (wx : World) : Prop :=
  ∃ q2 vv bb v2 ov2 L2, q.act c = (q2, vv, bb) ∧ v = .int .i64 vv ∧ ok = .bool bb ∧ RPM w0 pb q2 v2 gv wv ov2 L2 wx

def rplayEnd (l : List (Int × Int)) (n : Nat) : RP := l.foldl RP.step ⟨newS n, [], [], []⟩
def RPlayPost (w0 : World) (n : Nat) (l : List (Int × Int)) (e : Ending) (w' : World) : Prop :=
  ∃ v bv, e = .returned (.tuple #[v, bv, .int .i64 0]) ∧ SliceAt w' 3 1 v (icells (rplayEnd l n).gave) ∧ SliceAt w' 46 3 bv (blkCells (blocks 0 (rplayEnd l n).S)) ∧ Below w0.heap.size w0 w'

def RPlayPost2 (w0 : World) (n : Nat) (l : List (Int × Int)) (e : Ending) (w' : World) : Prop :=
  (l.any badCall = true ∧ e = .returned (.tuple #[.slice none 0 0, .slice none 0 0, .int .i64 1]) ∧ Below w0.heap.size w0 w') ∨ (l.any badCall = false ∧ RPlayPost w0 n l e w')

theorem RPM.start {w0 W : World} {v : Value} {L : List RN} {S : St} (h : RC W v L S) (hB : Below w0.heap.size w0 W) :
    RPM w0 W.heap.size ⟨S, [], [], []⟩ v (.slice none 0 0) (.slice none 0 0) (.slice none 0 0) L (W.alloc (.cells #[v, .slice none 0 0, .slice none 0 0, .slice none 0 0] 78)) :=
  { blk := heap_alloc_new W _, rc := h.alloc _, gs := SliceAt.nil _ _ _, ws := SliceAt.nil _ _ _, os := SliceAt.nil _ _ _
    ag := fun k hk => by simp [Value.ownBlock] at hk
    ao := fun k hk => by simp [Value.ownBlock] at hk
    aw := fun k hk => by simp [Value.ownBlock] at hk
    old := hB.alloc hB.size _, pbz := hB.size }

theorem elemBool : Elem Try.prog 4 1 1 (.bool false) := Elem.mk' (by kernel_rfl) rfl (by decide)

/-- The stages of the region of Get: 9 the call, 10 its tuple, 11 the store that it gave, 14 a box, 15 the box is written. -/
structure P15 (W : World) (v : Value) (L : List RN) (T : St) (C E : Int) (s : Nat) (ξ : Nat → Value) (w : World) : Prop where
  b : Below W.heap.size W w
  e11 : (s = 1 ∨ 3 ≤ s) → ∃ v' L', ξ 9 = .tuple #[.agg #[v'], .int .i64 C, .int .i64 E] ∧ (s = 3 ∨ 5 ≤ s → ξ 10 = .tuple #[.agg #[v'], .int .i64 C, .int .i64 E]) ∧ (s = 5 ∨ 7 ≤ s → ξ 11 = .agg #[v']) ∧ RC w v' L' T ∧ FromOr v L W.heap.size v' L' ∧
    (s = 8 → ∃ nb, ξ 14 = .pointer (some ⟨nb, 0, none⟩) ∧ w.cell? ⟨nb, 0, none⟩ = some v' ∧ W.heap.size ≤ nb)
  e15 : (s = 2 ∨ s = 4 ∨ s = 6 ∨ s = 7) → ∃ nb, ξ 14 = .pointer (some ⟨nb, 0, none⟩) ∧ w.heap[nb]? = some (.cells #[.slice none 0 0] 59 (0, 0)) ∧ W.heap.size ≤ nb

/-- The stages of the end: 8 the call of Blocks, 10 its result. -/
structure P27 (W : World) (S : St) (s : Nat) (ξ : Nat → Value) (w : World) : Prop where
  b : Below W.heap.size W w
  e : s = 1 → SliceAt w 46 3 (ξ 8) (blkCells (blocks 0 S))
  e2 : s = 2 → SliceAt w 46 3 (ξ 8) (blkCells (blocks 0 S)) ∧ ξ 10 = ξ 8

set_option maxRecDepth 100000 in
set_option maxHeartbeats 4000000 in
theorem rplay_good {w0 : World} (n : Nat) (h0 : 4 ≤ n) (h1 : n ≤ 32000) (h2 : n % 2 = 0) (l : List (Int × Int)) (a : Option Addr) (cap : Nat) (hin : PIn w0 a l) (hl : l.length ≤ 400) (hwf : ∀ p ∈ l, (Lit.int .i64 p.1).wf = true ∧ (Lit.int .i64 p.2).wf = true) :
    Calls Try.prog 14 #[.int .i64 n, .slice a l.length cap] w0 (RPlayPost2 w0 n l) := by
  have q2 : decide ((400 : Int) < (l.length : Int)) = false := by simp; omega
  have q3 : decide (400 < l.length) = false := by simp; omega
  have HI := Lib.hid (And.intro hin hwf)
  clear hin hwf
  go_enter Try.func14, Try.ntmps14
  go_wp2_with fail
  refine (rnew_good n h0 h1 h2 _).mono ?_
  rintro e1 w1 ⟨rfl, hw1⟩
  go_wp2_with fail
  generalize hpb : w0.heap.size + 1 + 1 + 1 + 1 = pb
  have HPB := Lib.hid hpb
  clear hpb
  go_loopg [10] (l.length) (fun k i wr => ∃ j : Nat, k + j = l.length ∧ i = .int .i64 j ∧ (l.take j).any badCall = false ∧ ∃ v gv wv ov L, RPM w0 pb ((l.take j).foldl RP.step ⟨newS n, [], [], []⟩) v gv wv ov L wr)
  case atStart =>
    have hr := (ref_startP w0 n h0 h1).alloc (.cells #[.slice (some ⟨w0.heap.size + 2, 0, none⟩) 1 1] 59)
    have hB : Below w0.heap.size w0 ((((w0.alloc (.cells #[.slice (some ⟨w0.heap.size + 2, 0, none⟩) 1 1] 59)).alloc (.cells (icells (zeros n)).toArray 3)).alloc (.cells #[.slice (some ⟨w0.heap.size + 1, 0, none⟩) n n, .bool false] 108)).alloc (.cells #[.slice (some ⟨w0.heap.size + 2, 0, none⟩) 1 1] 59)) :=
      ((((Below.refl _ w0).alloc (Nat.le_refl _) _).alloc (by simp) _).alloc (by simp; omega) _).alloc (by simp; omega) _
    have hs := RPM.start hr hB
    have hz : ((((w0.alloc (.cells #[.slice (some ⟨w0.heap.size + 2, 0, none⟩) 1 1] 59)).alloc (.cells (icells (zeros n)).toArray 3)).alloc (.cells #[.slice (some ⟨w0.heap.size + 1, 0, none⟩) n n, .bool false] 108)).alloc (.cells #[.slice (some ⟨w0.heap.size + 2, 0, none⟩) 1 1] 59)).heap.size = pb := by rw [← HPB.out]; simp
    rw [hz] at hs
    exact ⟨0, rfl, rfl, rfl, _, _, _, _, _, hs⟩
  case round =>
    obtain ⟨j, hk, rfl, hany, v, gv, wv, ov, L, hM⟩ := hrel
    obtain ⟨q, hq⟩ : ∃ q, (l.take j).foldl RP.step ⟨newS n, [], [], []⟩ = q := ⟨_, rfl⟩
    rw [hq] at hM
    have hpb : True := trivial
    have hlens : q.gave.length = j ∧ q.works.length = j ∧ q.got.length ≤ j := by
      have := rplay_lens (l.take j) ⟨newS n, [], [], []⟩
      rw [hq] at this
      simp only [List.length_take, List.length_nil] at this
      omega
    by_cases hlt : j < l.length
    · obtain ⟨c, hc⟩ : ∃ c, l[j]? = some c := ⟨_, List.getElem?_eq_getElem hlt⟩
      obtain ⟨b, off, rfl, hcc⟩ := (HI.out.1).resolve_left (by intro e; rw [e] at hlt; simp at hlt)
      obtain ⟨c0, c1⟩ := hcc j c hc
      have hcl := List.mem_of_getElem? hc
      obtain ⟨x, y⟩ := c
      simp only at c0 c1
      have d0 : wr.cell? ⟨b, off + j * 2, none⟩ = some (.int .i64 x) := (hM.old.cell (cell_lt c0)).trans c0
      have d1 : wr.cell? ⟨b, off + j * 2 + 1, none⟩ = some (.int .i64 y) := (hM.old.cell (cell_lt c1)).trans c1
      cases hbad : badCall (x, y) with
      | true =>
        have HF := Lib.hid (show l.any badCall = true from List.any_eq_true.2 ⟨_, hcl, hbad⟩)
        have HO := Lib.hid hM.old
        have q4 : decide ((j : Int) < (l.length : Int)) = true := decide_eq_true (by omega)
        have hb2 : x < 0 ∨ 2 < x := by unfold badCall at hbad; simpa using hbad
        clear hM hq hpb hlens hc hcc hbad hcl c0 c1 q2 q3 hw1 hany d1
        by_cases hx0 : x < 0
        · clear hb2
          go_wp2_with fail
          go_ret3
          exact .inl ⟨HF.out, rfl, HO.out⟩
        · have hx2 : 2 < x := by omega
          clear hb2
          go_wp2_with fail
          go_ret3
          exact .inl ⟨HF.out, rfl, HO.out⟩
      | false =>
      have hx : x = 0 ∨ x = 1 ∨ x = 2 := by
        unfold badCall at hbad
        simp at hbad
        omega
      have HAN := Lib.hid (And.intro hany hbad)
      clear hany
      have hokq : Ok n q.S := by
        have h5 := rel_fold (l.take j) (rel_start h0 h1 h2)
        rw [hq] at h5
        rw [← h5.S]; exact h5.ok
      have hput := rpput_calls hM hokq (by omega) (by omega) (by omega) y
      have hgrown := rgrown_calls hM hokq (by omega) y
      have HPU := Lib.hid (And.intro hput (And.intro hgrown hokq))
      clear hput hgrown hokq
      have hx0 : decide (x < 0) = false := decide_eq_false (by omega)
      have hx2 : decide (2 < x) = false := decide_eq_false (by omega)
      have HM := Lib.hid (And.intro hM (And.intro hq (And.intro hpb (And.intro hlens (And.intro hc hk)))))
      have hbnd : (j : Int) ≤ 400 := by omega
      clear hM hq hpb hlens hc hk hcc hbad hcl c0 c1
      have q4 : decide ((j : Int) < (l.length : Int)) = true := decide_eq_true (by omega)
      clear q2 q3 hw1
      go_upto_block 2 with fail
      go_cut [11, 12, 13, 14, 15] from 55 to 111 (fun v ok u13 u14 u15 wx => RMid w0 pb q gv wv (x, y) v ok wx)
      case first =>
        rcases hx with rfl | rfl | rfl
        · obtain ⟨va, vn, vc, rfl, -⟩ := SliceAt.form HM.out.1.rc.ref
          obtain ⟨s0, -, -, -, -⟩ := HM.out.1.cells
          have s1 := d1
          clear hx0 hx2
          go_upto_region 15 with fail
          obtain ⟨T, hT⟩ : ∃ T, (get q.S y).1 = T := ⟨_, rfl⟩
          obtain ⟨C, hC⟩ : ∃ T, (get q.S y).2.1 = T := ⟨_, rfl⟩
          obtain ⟨E, hE⟩ : ∃ T, (get q.S y).2.2 = T := ⟨_, rfl⟩
          have HTE := Lib.hid (And.intro hT (And.intro hC hE))
          have HC5 := Lib.hid (And.intro (cell_lt s0) (cell_lt s1))
          clear hT hC hE
          refine wp_region_planH (aX := ?aX15) [9, 10, 11, 14, 15] [[], [9], [14], [9, 10], [9, 14], [9, 10, 11], [9, 10, 14], [9, 10, 11, 14], [9, 10, 11, 14, 15]] 8 [(0, 0, 0), (0, 1, 1), (0, 2, 2), (0, 3, 3), (0, 4, 4), (0, 5, 5), (0, 6, 6), (0, 7, 7), (1, 0, 0), (1, 2, 2), (2, 0, 0), (2, 2, 2), (3, 0, 0), (3, 2, 2), (4, 0, 0), (4, 1, 1), (4, 2, 2), (4, 3, 3), (4, 4, 4), (4, 5, 5), (4, 6, 6), (4, 7, 7), (5, 0, 0), (5, 1, 1), (5, 2, 2), (5, 3, 3), (5, 4, 4), (5, 5, 5), (5, 6, 6), (5, 7, 7), (6, 0, 0), (6, 2, 2), (7, 0, 0), (7, 2, 2), (8, 0, 0), (8, 2, 2), (9, 0, 1), (9, 2, 4), (10, 1, 3), (10, 4, 6), (11, 3, 5), (11, 6, 7), (12, 3, 3), (12, 5, 5), (12, 6, 6), (12, 7, 7), (12, 8, 8), (13, 3, 3), (13, 5, 5), (13, 6, 6), (13, 7, 7), (13, 8, 8), (14, 0, 2), (14, 1, 4), (14, 3, 6), (14, 5, 7), (15, 7, 8), (16, 8, 8), (17, 8, 8)]
            [.pointer (some ⟨pb, 0, none⟩), .pointer (some ⟨pb, 0, none⟩), .pointer (some ⟨pb, 0, none⟩), .agg #[.slice va vn vc], .slice (some ⟨b, off, none⟩) l.length cap, .int .i64 j, .pointer (some ⟨b, off + j * 2, none⟩), .pointer (some ⟨b, off + j * 2 + 1, none⟩), .int .i64 y, undef, undef, undef, .int .i64 C, .int .i64 E, undef, undef, .int .i64 C, .int .i64 E]
            (P15 wr.drew (.slice va vn vc) L T C E) (by kernel_rfl) (by kernel_rfl) rfl ?hX15 (fun _ => undef) ?h015 ?hob15 ?hend15
          case hX15 => intro ξ; simp only [mixAll, Act.put]; go_simp; rfl
          case h015 => exact ⟨Below.refl _ _, fun q => absurd q (by decide), fun q => absurd q (by decide)⟩
          case hob15 =>
            refine oblsH_cons rfl (stepH_value rfl rfl (fun _ _ _ => rfl)) ?_
            refine oblsH_cons rfl (stepH_value rfl rfl (fun _ _ _ => rfl)) ?_
            refine oblsH_cons rfl (stepH_value rfl rfl (fun _ _ _ => rfl)) ?_
            refine oblsH_cons rfl (stepH_value rfl rfl (fun _ _ _ => rfl)) ?_
            refine oblsH_cons rfl (stepH_value rfl rfl (fun _ _ _ => rfl)) ?_
            refine oblsH_cons rfl (stepH_value rfl rfl (fun _ _ _ => rfl)) ?_
            refine oblsH_cons rfl (stepH_value rfl rfl (fun _ _ _ => rfl)) ?_
            refine oblsH_cons rfl (stepH_value rfl rfl (fun _ _ _ => rfl)) ?_
            refine oblsH_cons rfl (stepH_value rfl rfl (fun _ _ _ => rfl)) ?_
            refine oblsH_cons rfl (stepH_value rfl rfl (fun _ _ _ => rfl)) ?_
            refine oblsH_cons rfl (stepH_value rfl rfl (fun _ _ _ => rfl)) ?_
            refine oblsH_cons rfl (stepH_value rfl rfl (fun _ _ _ => rfl)) ?_
            refine oblsH_cons rfl (stepH_value rfl rfl ?_) ?_
            · rintro ξ w5 h5
              have x0 := (h5.b.cell (p := ⟨pb, 0, none⟩) HC5.out.1).trans s0
              have x1 := (h5.b.cell (p := ⟨b, off + j * 2 + 1, none⟩) HC5.out.2).trans s1
              clear h5
              go_simp
              try rfl
            refine oblsH_cons rfl (stepH_value rfl rfl ?_) ?_
            · rintro ξ w5 h5
              have x0 := (h5.b.cell (p := ⟨pb, 0, none⟩) HC5.out.1).trans s0
              have x1 := (h5.b.cell (p := ⟨b, off + j * 2 + 1, none⟩) HC5.out.2).trans s1
              clear h5
              go_simp
              try rfl
            refine oblsH_cons rfl (stepH_value rfl rfl (fun _ _ _ => rfl)) ?_
            refine oblsH_cons rfl (stepH_value rfl rfl (fun _ _ _ => rfl)) ?_
            refine oblsH_cons rfl (stepH_value rfl rfl (fun _ _ _ => rfl)) ?_
            refine oblsH_cons rfl (stepH_value rfl rfl (fun _ _ _ => rfl)) ?_
            refine oblsH_cons rfl (stepH_value rfl rfl (fun _ _ _ => rfl)) ?_
            refine oblsH_cons rfl (stepH_value rfl rfl (fun _ _ _ => rfl)) ?_
            refine oblsH_cons rfl (stepH_value rfl rfl (fun _ _ _ => rfl)) ?_
            refine oblsH_cons rfl (stepH_value rfl rfl (fun _ _ _ => rfl)) ?_
            refine oblsH_cons rfl (stepH_value rfl rfl (fun _ _ _ => rfl)) ?_
            refine oblsH_cons rfl (stepH_value rfl rfl (fun _ _ _ => rfl)) ?_
            refine oblsH_cons rfl (stepH_value rfl rfl (fun _ _ _ => rfl)) ?_
            refine oblsH_cons rfl (stepH_value rfl rfl (fun _ _ _ => rfl)) ?_
            refine oblsH_cons rfl (stepH_value rfl rfl (fun _ _ _ => rfl)) ?_
            refine oblsH_cons rfl (stepH_value rfl rfl (fun _ _ _ => rfl)) ?_
            refine oblsH_cons rfl (stepH_value rfl rfl (fun _ _ _ => rfl)) ?_
            refine oblsH_cons rfl (stepH_value rfl rfl (fun _ _ _ => rfl)) ?_
            refine oblsH_cons rfl (stepH_value rfl rfl ?_) ?_
            · rintro ξ w5 h5
              have x0 := (h5.b.cell (p := ⟨pb, 0, none⟩) HC5.out.1).trans s0
              have x1 := (h5.b.cell (p := ⟨b, off + j * 2 + 1, none⟩) HC5.out.2).trans s1
              clear h5
              go_simp
              try rfl
            refine oblsH_cons rfl (stepH_value rfl rfl ?_) ?_
            · rintro ξ w5 h5
              have x0 := (h5.b.cell (p := ⟨pb, 0, none⟩) HC5.out.1).trans s0
              have x1 := (h5.b.cell (p := ⟨b, off + j * 2 + 1, none⟩) HC5.out.2).trans s1
              clear h5
              go_simp
              try rfl
            refine oblsH_cons rfl (stepH_value rfl rfl ?_) ?_
            · rintro ξ w5 h5
              have x0 := (h5.b.cell (p := ⟨pb, 0, none⟩) HC5.out.1).trans s0
              have x1 := (h5.b.cell (p := ⟨b, off + j * 2 + 1, none⟩) HC5.out.2).trans s1
              clear h5
              go_simp
              try rfl
            refine oblsH_cons rfl (stepH_value rfl rfl ?_) ?_
            · rintro ξ w5 h5
              have x0 := (h5.b.cell (p := ⟨pb, 0, none⟩) HC5.out.1).trans s0
              have x1 := (h5.b.cell (p := ⟨b, off + j * 2 + 1, none⟩) HC5.out.2).trans s1
              clear h5
              go_simp
              try rfl
            refine oblsH_cons rfl (stepH_value rfl rfl ?_) ?_
            · rintro ξ w5 h5
              have x0 := (h5.b.cell (p := ⟨pb, 0, none⟩) HC5.out.1).trans s0
              have x1 := (h5.b.cell (p := ⟨b, off + j * 2 + 1, none⟩) HC5.out.2).trans s1
              clear h5
              go_simp
              try rfl
            refine oblsH_cons rfl (stepH_value rfl rfl ?_) ?_
            · rintro ξ w5 h5
              have x0 := (h5.b.cell (p := ⟨pb, 0, none⟩) HC5.out.1).trans s0
              have x1 := (h5.b.cell (p := ⟨b, off + j * 2 + 1, none⟩) HC5.out.2).trans s1
              clear h5
              go_simp
              try rfl
            refine oblsH_cons rfl (stepH_call rfl rfl ?_) ?_
            · rintro ξ w5 h5
              have hz := h5.b.size
              refine ⟨41, #[.agg #[.slice va vn vc], .int .i64 y], by clear h5; go_simp, ?_⟩
              refine (rget_calls (HM.out.1.rc.below ((Below.refl _ wr).drew.trans h5.b)) HPU.out.2.2 y).mono ?_
              rintro e6 w6 ⟨v6, L6, rfl, r6, b6, -, f6⟩
              rw [HTE.out.1] at r6
              rw [HTE.out.2.1, HTE.out.2.2]
              have hf : FromOr (.slice va vn vc) L wr.drew.heap.size v6 L6 := by
                rcases f6 with q | q
                · exact .inl q
                · exact .inr (q.mono hz)
              exact ⟨_, rfl, { b := h5.b.trans (b6.mono hz), e11 := fun _ => ⟨v6, L6, rfl, (fun q => absurd q (by decide)), (fun q => absurd q (by decide)), r6, hf, (fun q => absurd q (by decide))⟩,
                               e15 := fun q => by first | exact absurd q (by decide) | (obtain ⟨nb, y1, y2, y3⟩ := h5.e15 (by decide); exact ⟨nb, y1, (b6.block nb (heap_lt y2)).trans y2, y3⟩) }⟩
            refine oblsH_cons rfl (stepH_call rfl rfl ?_) ?_
            · rintro ξ w5 h5
              have hz := h5.b.size
              refine ⟨41, #[.agg #[.slice va vn vc], .int .i64 y], by clear h5; go_simp, ?_⟩
              refine (rget_calls (HM.out.1.rc.below ((Below.refl _ wr).drew.trans h5.b)) HPU.out.2.2 y).mono ?_
              rintro e6 w6 ⟨v6, L6, rfl, r6, b6, -, f6⟩
              rw [HTE.out.1] at r6
              rw [HTE.out.2.1, HTE.out.2.2]
              have hf : FromOr (.slice va vn vc) L wr.drew.heap.size v6 L6 := by
                rcases f6 with q | q
                · exact .inl q
                · exact .inr (q.mono hz)
              exact ⟨_, rfl, { b := h5.b.trans (b6.mono hz), e11 := fun _ => ⟨v6, L6, rfl, (fun q => absurd q (by decide)), (fun q => absurd q (by decide)), r6, hf, (fun q => absurd q (by decide))⟩,
                               e15 := fun q => by first | exact absurd q (by decide) | (obtain ⟨nb, y1, y2, y3⟩ := h5.e15 (by decide); exact ⟨nb, y1, (b6.block nb (heap_lt y2)).trans y2, y3⟩) }⟩
            refine oblsH_cons rfl (stepH_make rfl rfl ?_) ?_
            · rintro ξ w5 h5
              obtain ⟨v6, L6, y11, y12, y13, r6, f6, -⟩ := h5.e11 (by decide)
              have x := y11
              refine ⟨.tuple #[.agg #[v6], .int .i64 C, .int .i64 E], w5, ?_, { b := h5.b, e11 := fun _ => ⟨v6, L6, y11, (fun q => by first | rfl | exact y12 (by decide) | exact absurd q (by decide)), (fun q => by first | rfl | exact y13 (by decide) | exact absurd q (by decide)), r6, f6, (fun q => absurd q (by decide))⟩, e15 := fun q => by first | exact absurd q (by decide) | exact h5.e15 (by decide) }⟩
              clear h5 y11 y12 y13 r6 f6
              go_simp
              try rfl
            refine oblsH_cons rfl (stepH_make rfl rfl ?_) ?_
            · rintro ξ w5 h5
              obtain ⟨v6, L6, y11, y12, y13, r6, f6, -⟩ := h5.e11 (by decide)
              have x := y11
              refine ⟨.tuple #[.agg #[v6], .int .i64 C, .int .i64 E], w5, ?_, { b := h5.b, e11 := fun _ => ⟨v6, L6, y11, (fun q => by first | rfl | exact y12 (by decide) | exact absurd q (by decide)), (fun q => by first | rfl | exact y13 (by decide) | exact absurd q (by decide)), r6, f6, (fun q => absurd q (by decide))⟩, e15 := fun q => by first | exact absurd q (by decide) | exact h5.e15 (by decide) }⟩
              clear h5 y11 y12 y13 r6 f6
              go_simp
              try rfl
            refine oblsH_cons rfl (stepH_make rfl rfl ?_) ?_
            · rintro ξ w5 h5
              obtain ⟨v6, L6, y11, y12, y13, r6, f6, -⟩ := h5.e11 (by decide)
              have x := y12 (by decide)
              refine ⟨.agg #[v6], w5, ?_, { b := h5.b, e11 := fun _ => ⟨v6, L6, y11, (fun q => by first | rfl | exact y12 (by decide) | exact absurd q (by decide)), (fun q => by first | rfl | exact y13 (by decide) | exact absurd q (by decide)), r6, f6, (fun q => absurd q (by decide))⟩, e15 := fun q => by first | exact absurd q (by decide) | exact h5.e15 (by decide) }⟩
              clear h5 y11 y12 y13 r6 f6
              go_simp
              try rfl
            refine oblsH_cons rfl (stepH_make rfl rfl ?_) ?_
            · rintro ξ w5 h5
              obtain ⟨v6, L6, y11, y12, y13, r6, f6, -⟩ := h5.e11 (by decide)
              have x := y12 (by decide)
              refine ⟨.agg #[v6], w5, ?_, { b := h5.b, e11 := fun _ => ⟨v6, L6, y11, (fun q => by first | rfl | exact y12 (by decide) | exact absurd q (by decide)), (fun q => by first | rfl | exact y13 (by decide) | exact absurd q (by decide)), r6, f6, (fun q => absurd q (by decide))⟩, e15 := fun q => by first | exact absurd q (by decide) | exact h5.e15 (by decide) }⟩
              clear h5 y11 y12 y13 r6 f6
              go_simp
              try rfl
            refine oblsH_cons rfl (stepH_value rfl rfl ?_) ?_
            · rintro ξ w5 h5
              obtain ⟨v6, L6, y11, y12, y13, r6, f6, -⟩ := h5.e11 (by decide)
              have x := y12 (by decide)
              clear h5 y11 y12 y13 r6 f6
              go_simp
              rfl
            refine oblsH_cons rfl (stepH_value rfl rfl ?_) ?_
            · rintro ξ w5 h5
              obtain ⟨v6, L6, y11, y12, y13, r6, f6, -⟩ := h5.e11 (by decide)
              have x := y12 (by decide)
              clear h5 y11 y12 y13 r6 f6
              go_simp
              rfl
            refine oblsH_cons rfl (stepH_value rfl rfl ?_) ?_
            · rintro ξ w5 h5
              obtain ⟨v6, L6, y11, y12, y13, r6, f6, -⟩ := h5.e11 (by decide)
              have x := y12 (by decide)
              clear h5 y11 y12 y13 r6 f6
              go_simp
              rfl
            refine oblsH_cons rfl (stepH_value rfl rfl ?_) ?_
            · rintro ξ w5 h5
              obtain ⟨v6, L6, y11, y12, y13, r6, f6, -⟩ := h5.e11 (by decide)
              have x := y12 (by decide)
              clear h5 y11 y12 y13 r6 f6
              go_simp
              rfl
            refine oblsH_cons rfl (stepH_value rfl rfl ?_) ?_
            · rintro ξ w5 h5
              obtain ⟨v6, L6, y11, y12, y13, r6, f6, -⟩ := h5.e11 (by decide)
              have x := y12 (by decide)
              clear h5 y11 y12 y13 r6 f6
              go_simp
              rfl
            refine oblsH_cons rfl (stepH_value rfl rfl ?_) ?_
            · rintro ξ w5 h5
              obtain ⟨v6, L6, y11, y12, y13, r6, f6, -⟩ := h5.e11 (by decide)
              have x := y12 (by decide)
              clear h5 y11 y12 y13 r6 f6
              go_simp
              rfl
            refine oblsH_cons rfl (stepH_value rfl rfl ?_) ?_
            · rintro ξ w5 h5
              obtain ⟨v6, L6, y11, y12, y13, r6, f6, -⟩ := h5.e11 (by decide)
              have x := y12 (by decide)
              clear h5 y11 y12 y13 r6 f6
              go_simp
              rfl
            refine oblsH_cons rfl (stepH_value rfl rfl ?_) ?_
            · rintro ξ w5 h5
              obtain ⟨v6, L6, y11, y12, y13, r6, f6, -⟩ := h5.e11 (by decide)
              have x := y12 (by decide)
              clear h5 y11 y12 y13 r6 f6
              go_simp
              rfl
            refine oblsH_cons rfl (stepH_value rfl rfl ?_) ?_
            · rintro ξ w5 h5
              obtain ⟨v6, L6, y11, y12, y13, r6, f6, -⟩ := h5.e11 (by decide)
              have x := y12 (by decide)
              clear h5 y11 y12 y13 r6 f6
              go_simp
              rfl
            refine oblsH_cons rfl (stepH_value rfl rfl ?_) ?_
            · rintro ξ w5 h5
              obtain ⟨v6, L6, y11, y12, y13, r6, f6, -⟩ := h5.e11 (by decide)
              have x := y12 (by decide)
              clear h5 y11 y12 y13 r6 f6
              go_simp
              rfl
            refine oblsH_cons rfl (stepH_make rfl rfl ?_) ?_
            · rintro ξ w5 h5
              have hB : Below w5.heap.size w5 (w5.alloc (.cells #[.slice none 0 0] 59)) := (Below.refl _ w5).alloc (Nat.le_refl _) _
              have hz := h5.b.size
              refine ⟨.pointer (some ⟨w5.heap.size, 0, none⟩), w5.alloc (.cells #[.slice none 0 0] 59), ?_, { b := h5.b.trans (hB.mono hz), e11 := fun q => by first | exact absurd q (by decide) | (obtain ⟨v6, L6, y11, y12, y13, r6, f6, -⟩ := h5.e11 (by decide); exact ⟨v6, L6, y11, (fun q => by first | exact y12 (by decide) | exact absurd q (by decide)), (fun q => by first | exact y13 (by decide) | exact absurd q (by decide)), r6.below hB, f6, (fun q => absurd q (by decide))⟩), e15 := fun _ => ⟨w5.heap.size, rfl, heap_alloc_new w5 _, hz⟩ }⟩
              clear h5 hB hz
              go_simp
              try rfl
            refine oblsH_cons rfl (stepH_make rfl rfl ?_) ?_
            · rintro ξ w5 h5
              have hB : Below w5.heap.size w5 (w5.alloc (.cells #[.slice none 0 0] 59)) := (Below.refl _ w5).alloc (Nat.le_refl _) _
              have hz := h5.b.size
              refine ⟨.pointer (some ⟨w5.heap.size, 0, none⟩), w5.alloc (.cells #[.slice none 0 0] 59), ?_, { b := h5.b.trans (hB.mono hz), e11 := fun q => by first | exact absurd q (by decide) | (obtain ⟨v6, L6, y11, y12, y13, r6, f6, -⟩ := h5.e11 (by decide); exact ⟨v6, L6, y11, (fun q => by first | exact y12 (by decide) | exact absurd q (by decide)), (fun q => by first | exact y13 (by decide) | exact absurd q (by decide)), r6.below hB, f6, (fun q => absurd q (by decide))⟩), e15 := fun _ => ⟨w5.heap.size, rfl, heap_alloc_new w5 _, hz⟩ }⟩
              clear h5 hB hz
              go_simp
              try rfl
            refine oblsH_cons rfl (stepH_make rfl rfl ?_) ?_
            · rintro ξ w5 h5
              have hB : Below w5.heap.size w5 (w5.alloc (.cells #[.slice none 0 0] 59)) := (Below.refl _ w5).alloc (Nat.le_refl _) _
              have hz := h5.b.size
              refine ⟨.pointer (some ⟨w5.heap.size, 0, none⟩), w5.alloc (.cells #[.slice none 0 0] 59), ?_, { b := h5.b.trans (hB.mono hz), e11 := fun q => by first | exact absurd q (by decide) | (obtain ⟨v6, L6, y11, y12, y13, r6, f6, -⟩ := h5.e11 (by decide); exact ⟨v6, L6, y11, (fun q => by first | exact y12 (by decide) | exact absurd q (by decide)), (fun q => by first | exact y13 (by decide) | exact absurd q (by decide)), r6.below hB, f6, (fun q => absurd q (by decide))⟩), e15 := fun _ => ⟨w5.heap.size, rfl, heap_alloc_new w5 _, hz⟩ }⟩
              clear h5 hB hz
              go_simp
              try rfl
            refine oblsH_cons rfl (stepH_make rfl rfl ?_) ?_
            · rintro ξ w5 h5
              have hB : Below w5.heap.size w5 (w5.alloc (.cells #[.slice none 0 0] 59)) := (Below.refl _ w5).alloc (Nat.le_refl _) _
              have hz := h5.b.size
              refine ⟨.pointer (some ⟨w5.heap.size, 0, none⟩), w5.alloc (.cells #[.slice none 0 0] 59), ?_, { b := h5.b.trans (hB.mono hz), e11 := fun q => by first | exact absurd q (by decide) | (obtain ⟨v6, L6, y11, y12, y13, r6, f6, -⟩ := h5.e11 (by decide); exact ⟨v6, L6, y11, (fun q => by first | exact y12 (by decide) | exact absurd q (by decide)), (fun q => by first | exact y13 (by decide) | exact absurd q (by decide)), r6.below hB, f6, (fun q => absurd q (by decide))⟩), e15 := fun _ => ⟨w5.heap.size, rfl, heap_alloc_new w5 _, hz⟩ }⟩
              clear h5 hB hz
              go_simp
              try rfl
            refine oblsH_cons rfl (stepH_store rfl rfl rfl ?_) ?_
            · rintro ξ w5 h5
              obtain ⟨v6, L6, y11, y12, y13, r6, f6, -⟩ := h5.e11 (by decide)
              obtain ⟨nb, z1, z2, z3⟩ := h5.e15 (by decide)
              obtain ⟨pa, pn, pc, rfl, -⟩ := SliceAt.form r6.ref
              have x13 := y13 (by decide)
              have z1' := z1
              have r0 : w5.cell? ⟨nb, 0, none⟩ = some (.slice none 0 0) := cell_at z2 rfl
              have r1 : w5.frozen? ⟨nb, 0, none⟩ = false := frozen_at z2
              refine ⟨w5.setCell ⟨nb, 0, none⟩ (.slice pa pn pc), ?_, ?_⟩
              · clear h5 y11 y12 y13 r6 f6 z1 z2 z3
                go_simp
              · have t5 : Turn (fun k => k = nb) w5 (w5.setCell ⟨nb, 0, none⟩ (.slice pa pn pc)) := (Turn.refl (fun k => k = nb) w5).setCell (p := ⟨nb, 0, none⟩) (fun _ => rfl) _
                have hbx := r6.box z2
                exact { b := h5.b.setCell (p := ⟨nb, 0, none⟩) z3 _, e11 := fun _ => ⟨_, L6, y11, fun _ => y12 (by decide), fun _ => y13 (by decide), r6.turn t5 (fun k hk e => hbx.1 (by rw [hk, e])) (fun y hy k hk e => hbx.2 y hy (by rw [hk, e])), f6, fun _ => ⟨nb, z1, World.cell?_setCell_same' _ _ _ (by rw [r0]; rfl), z3⟩⟩, e15 := fun q => absurd q (by decide) }
            refine oblsH_cons rfl (stepH_value rfl rfl (fun _ _ _ => rfl)) ?_
            refine oblsH_cons rfl (stepH_value rfl rfl (fun _ _ _ => rfl)) ?_
            exact oblsH_nil
          case hend15 =>
            rintro ξ2 w11 h8
            obtain ⟨v6, L6, y11, y12, y13, r6, f6, y8⟩ := h8.e11 (by decide)
            obtain ⟨nb, z1, z2, z3⟩ := y8 rfl
            obtain ⟨pa, pn, pc, rfl, -⟩ := SliceAt.form r6.ref
            rw [z1]
            have hB8 : Below wr.heap.size wr w11 := (Below.refl _ wr).drew.trans h8.b
            have h9 := HM.out.1.below hB8
            obtain ⟨t0, -, -, -, t4⟩ := h9.cells
            have hF : (Value.slice pa pn pc = .slice va vn vc ∧ L6 = L) ∨ ∃ N, Sep N (.slice pa pn pc) L6 ∧ (∀ k, gv.ownBlock = some k → k < N) ∧ (∀ k, ov.ownBlock = some k → k < N) := by
              rcases f6 with q | q
              · exact .inl q
              · exact .inr ⟨_, q, fun k hk => SliceAt.lt HM.out.1.gs k hk, fun k hk => SliceAt.lt HM.out.1.os k hk⟩
            have h12 := h9.store r6 hF
            obtain ⟨oa, on, oc, rfl, hol, -⟩ := SliceAt.form h12.os
            have HOL := Lib.hid hol
            have H12 := Lib.hid h12
            have HER := Lib.hid (get_errno HPU.out.2.2 y)
            clear h8 y11 y12 y13 r6 f6 y8 hF h12 h9 z1 z3 hB8 s0 s1 hol
            by_cases hE0 : E = 0
            · subst hE0
              go_upto_region 19 with fail
              obtain ⟨w12, hw12⟩ : ∃ w12, w11.setCell ⟨pb, 0, none⟩ (.slice pa pn pc) = w12 := ⟨_, rfl⟩
              have h12 := H12.out
              rw [hw12] at h12 ⊢
              obtain ⟨-, -, -, t3, -⟩ := h12.cells
              have h12a := h12.below ((Below.refl w12.heap.size w12).alloc (Nat.le_refl _) (.cells #[.int .i64 C] 3))
              have H12a := Lib.hid h12a
              clear h12 h12a t0 t4 z2 hw12
              go_wp2_with (
                at_builtin
                refine wpList_append _ rfl _ _ 24 24 rfl 3 1 8 (.int .i64 0) Try.underlying24 (.inr ⟨_, Try.underlying24⟩) elemInt (.slice oa on oc) _ rfl H12a.out.os _ _ _ rfl (Src.one rfl (heap_alloc_new w12 _)) (by intro u hu; simp at hu; subst hu; rfl) (by have := HM.out.2.2.2.1; simp; omega) (by have := HM.out.2.2.2.1; simp; omega) ?_
                intro v2 w2 hv2 ht2 hw2 hn2
                have h2 := H12a.out.app_got ht2 (l := q.got ++ [C]) (by rw [icells_append]; exact hv2) hw2
                have hb2 := (ht2.block pb (heap_lt H12a.out.blk) H12a.out.pb_ne.2.2.2.1).trans H12a.out.blk
                have u3 : w2.cell? ⟨pb, 3, none⟩ = some (.slice oa on oc) := cell_at hb2 rfl
                have u4 : w2.frozen? ⟨pb, 3, none⟩ = false := frozen_at hb2
                obtain ⟨ga, gn, gc, rfl, -⟩ := hv2.form
                have H2 := Lib.hid h2
                clear h2 hv2 ht2 hw2 hn2 hb2)
              go_meet
              case rel =>
                refine ⟨_, _, _, _, _, L6, ?_, rfl, rfl, H2.out⟩
                unfold RP.act
                rw [if_pos rfl, HTE.out.1, HTE.out.2.1, HTE.out.2.2, if_pos rfl]
            · have hb0 : (E == 0) = false := by simp [hE0]
              have hw : wrap64 (-E) = -E := by have := HER.out; rw [HTE.out.2.2] at this; unfold wrap64; omega
              have HW := Lib.hid (And.intro hE0 hw)
              clear hE0 hw
              go_wp2_with fail
              go_meet
              case rel =>
                refine ⟨{ q with S := T }, -E, false, _, _, L6, ?_, ?_, rfl, H12.out⟩
                · unfold RP.act
                  rw [if_pos rfl, HTE.out.1, HTE.out.2.2, if_neg HW.out.1]
                · show Value.int .i64 (wrap64 (-E)) = _
                  rw [HW.out.2]
        · go_upto_region 22 with fail
          clear hx0 hx2
          go_wp2_with fail
          refine HPU.out.1.mono ?_
          rintro e2 w2 ⟨rfl, v2, L2, hM2⟩
          have HM2 := Lib.hid hM2
          clear hM2
          go_wp2_with fail
          go_meet
          case rel => exact ⟨_, _, _, v2, _, L2, rfl, rfl, rfl, HM2.out⟩
        · go_upto_region 24 with fail
          clear hx0 hx2
          go_wp2_with fail
          refine HPU.out.2.1.mono ?_
          rintro e2 w2 ⟨rfl, v2, L2, hM2⟩
          have HM2 := Lib.hid hM2
          clear hM2
          go_wp2_with fail
          go_meet
          case rel => exact ⟨_, _, _, v2, _, L2, rfl, rfl, rfl, HM2.out⟩
      case rest =>
        obtain ⟨q2, vv, bb, v2, ov2, L2, hact, rfl, rfl, hM2⟩ := hcut
        have hal := act_lens q (x, y) hact
        obtain ⟨ga, gn, gc, rfl, hgl, -⟩ := SliceAt.form hM2.gs
        obtain ⟨wa, wn, wcp, rfl, hwl, -⟩ := SliceAt.form hM2.ws
        obtain ⟨-, s1, s2, -, -⟩ := hM2.cells
        have hMa := hM2.below ((Below.refl wc.heap.size wc).alloc (Nat.le_refl _) (.cells #[.int .i64 vv] 3))
        have HMA := Lib.hid hMa
        have HAL := Lib.hid (And.intro hal hact)
        clear hMa hM2 hal hact hgl hwl s2 hx hx0 hx2
        go_upto_region 26 with (
          at_builtin
          refine wpList_append _ rfl _ _ 24 24 rfl 3 1 8 (.int .i64 0) Try.underlying24 (.inr ⟨_, Try.underlying24⟩) elemInt (.slice ga gn gc) _ rfl HMA.out.gs _ _ _ rfl (Src.one rfl (heap_alloc_new wc _)) (by intro u hu; simp at hu; subst hu; rfl) (by have := HM.out.2.2.2.1; rw [HAL.out.1.1]; simp; omega) (by have := HM.out.2.2.2.1; rw [HAL.out.1.1]; simp; omega) ?_
          intro v3 w3 hv2 ht2 hw2 hn2
          have h2 := HMA.out.app_gave ht2 (l := q2.gave ++ [vv]) (by rw [icells_append]; exact hv2) hw2
          have hb2 := (ht2.block pb (heap_lt HMA.out.blk) HMA.out.pb_ne.2.1).trans HMA.out.blk
          have u3 : w3.cell? ⟨pb, 1, none⟩ = some (.slice ga gn gc) := cell_at hb2 rfl
          have u4 : w3.frozen? ⟨pb, 1, none⟩ = false := frozen_at hb2
          obtain ⟨ha, hn, hc, rfl, -⟩ := hv2.form
          have H2 := Lib.hid h2
          clear h2 hv2 ht2 hw2 hn2 hb2)
        obtain ⟨w4, hw4⟩ : ∃ w4, w3.setCell ⟨pb, 1, none⟩ (.slice ha hn hc) = w4 := ⟨_, rfl⟩
        have h4 := H2.out
        rw [hw4] at h4 ⊢
        obtain ⟨-, -, s2, -, -⟩ := h4.cells
        have h4a := h4.below ((Below.refl w4.heap.size w4).alloc (Nat.le_refl _) (.cells #[.bool bb] 4))
        have H4a := Lib.hid h4a
        clear h4 h4a hw4 u3 u4 s1
        go_wp2_with (
          at_builtin
          refine wpList_append _ rfl _ _ 76 76 rfl 4 1 1 (.bool false) Try.underlying76 (.inr ⟨_, Try.underlying76⟩) elemBool (.slice wa wn wcp) _ rfl H4a.out.ws _ _ _ rfl (Src.one rfl (heap_alloc_new w4 _)) (by intro u hu; simp at hu; subst hu; rfl) (by have := HM.out.2.2.2.1; rw [bools_length, HAL.out.1.2.1]; simp; omega) (by have := HM.out.2.2.2.1; rw [bools_length, HAL.out.1.2.1]; simp; omega) ?_
          intro v5 w5 hv2 ht2 hw2 hn2
          have h2 := H4a.out.app_works ht2 (l := q2.works ++ [bb]) (by unfold bools; rw [List.map_append]; exact hv2) hw2
          have hb2 := (ht2.block pb (heap_lt H4a.out.blk) H4a.out.pb_ne.2.2.1).trans H4a.out.blk
          have u3 : w5.cell? ⟨pb, 2, none⟩ = some (.slice wa wn wcp) := cell_at hb2 rfl
          have u4 : w5.frozen? ⟨pb, 2, none⟩ = false := frozen_at hb2
          obtain ⟨xa, xn, xc, rfl, -⟩ := hv2.form
          have H5 := Lib.hid h2
          clear h2 hv2 ht2 hw2 hn2 hb2)
        go_roundg (gk - 1)
        case measure => have := HM.out.2.2.2.2.2; omega
        case rel =>
          have hkk := HM.out.2.2.2.2.2
          refine ⟨j + 1, by omega, by simp, by rw [List.take_add_one, HM.out.2.2.2.2.1, List.any_append, HAN.out.1]; simp [HAN.out.2], ?_⟩
          have e1 : (l.take (j + 1)).foldl RP.step ⟨newS n, [], [], []⟩ = q.step (x, y) := by
            rw [List.take_add_one, HM.out.2.2.2.2.1, List.foldl_append, HM.out.2.1]; rfl
          rw [e1, step_act q (x, y) HAL.out.2]
          exact ⟨_, _, _, _, L2, H5.out⟩
    · have hj : j = l.length := by omega
      subst hj
      have hqe : q = rplayEnd l n := by
        rw [List.take_length] at hq
        exact hq.symm
      have hokq : Ok n q.S := by
        have h5 := rel_fold l (rel_start h0 h1 h2)
        rw [List.take_length] at hq
        rw [hq] at h5
        rw [← h5.S]; exact h5.ok
      obtain ⟨va, vn, vc, rfl, -⟩ := SliceAt.form hM.rc.ref
      obtain ⟨ga, gn, gc, rfl, -⟩ := SliceAt.form hM.gs
      obtain ⟨s0, s1, -, -, -⟩ := hM.cells
      have hlen := hokq.slen
      have hrz : rsz L ≤ 32000 := by rw [hM.rc.rszall]; exact hlen.2.1
      have hrl : L.length ≤ 16000 := by rw [hM.rc.len]; exact hlen.1
      have hreq := rblocks_eqP L q.S 0 (RC.map (v := (Value.slice va vn vc)) hM.rc.len hM.rc.blk)
      rw [List.take_length] at hany
      have HAN := Lib.hid hany
      have HM := Lib.hid (And.intro hM (And.intro hrz (And.intro hrl (And.intro hreq hqe))))
      clear hany
      have HC := Lib.hid (And.intro (cell_lt s0) (cell_lt s1))
      clear hM hrz hrl hreq hqe hokq hlen hlens hq hpb hk hw1 q2 q3
      go_upto_region 27 with fail
      refine wp_region_planH (aX := ?aX27) [8, 10] [[], [8], [8, 10]] 2 [(0, 0, 0), (0, 1, 1), (1, 0, 0), (1, 1, 1), (2, 0, 0), (2, 1, 1), (3, 0, 0), (3, 1, 1), (4, 0, 0), (4, 1, 1), (5, 0, 0), (6, 0, 0), (7, 0, 0), (8, 0, 1), (9, 1, 1), (10, 1, 2), (11, 2, 2)]
        [.pointer (some ⟨pb, 0, none⟩), .pointer (some ⟨pb, 0, none⟩), .pointer (some ⟨pb, 1, none⟩), .slice ga gn gc, .pointer (some ⟨pb, 0, none⟩), .pointer (some ⟨pb, 0, none⟩), .pointer (some ⟨pb, 0, none⟩), .agg #[.slice va vn vc], undef, .slice ga gn gc, undef, .int .i64 0]
        (P27 wr.drew q.S) (by kernel_rfl) (by kernel_rfl) rfl ?hX27 (fun _ => undef) ?h027 ?hob27 ?hend27
      case hX27 => intro ξ; simp only [mixAll, Act.put]; go_simp; rfl
      case h027 => exact ⟨Below.refl _ _, fun q => absurd q (by decide), fun q => absurd q (by decide)⟩
      case hob27 =>
        refine oblsH_cons rfl (stepH_value rfl rfl (fun _ _ _ => rfl)) ?_
        refine oblsH_cons rfl (stepH_value rfl rfl (fun _ _ _ => rfl)) ?_
        refine oblsH_cons rfl (stepH_value rfl rfl (fun _ _ _ => rfl)) ?_
        refine oblsH_cons rfl (stepH_value rfl rfl (fun _ _ _ => rfl)) ?_
        refine oblsH_cons rfl (stepH_value rfl rfl (fun _ _ _ => rfl)) ?_
        refine oblsH_cons rfl (stepH_value rfl rfl (fun _ _ _ => rfl)) ?_
        refine oblsH_cons rfl (stepH_value rfl rfl ?_) ?_
        · rintro ξ w5 h5
          have x0 := (h5.b.cell (p := ⟨pb, 0, none⟩) HC.out.1).trans s0
          have x1 := (h5.b.cell (p := ⟨pb, 1, none⟩) HC.out.2).trans s1
          clear h5
          go_simp
          try rfl
        refine oblsH_cons rfl (stepH_value rfl rfl ?_) ?_
        · rintro ξ w5 h5
          have x0 := (h5.b.cell (p := ⟨pb, 0, none⟩) HC.out.1).trans s0
          have x1 := (h5.b.cell (p := ⟨pb, 1, none⟩) HC.out.2).trans s1
          clear h5
          go_simp
          try rfl
        refine oblsH_cons rfl (stepH_value rfl rfl (fun _ _ _ => rfl)) ?_
        refine oblsH_cons rfl (stepH_value rfl rfl (fun _ _ _ => rfl)) ?_
        refine oblsH_cons rfl (stepH_value rfl rfl (fun _ _ _ => rfl)) ?_
        refine oblsH_cons rfl (stepH_value rfl rfl (fun _ _ _ => rfl)) ?_
        refine oblsH_cons rfl (stepH_value rfl rfl ?_) ?_
        · rintro ξ w5 h5
          have x0 := (h5.b.cell (p := ⟨pb, 0, none⟩) HC.out.1).trans s0
          have x1 := (h5.b.cell (p := ⟨pb, 1, none⟩) HC.out.2).trans s1
          clear h5
          go_simp
          try rfl
        refine oblsH_cons rfl (stepH_call rfl rfl ?_) ?_
        · rintro ξ w5 h5
          have hz := h5.b.size
          refine ⟨30, #[.agg #[.slice va vn vc]], by clear h5; go_simp, ?_⟩
          refine (rblocks_calls (HM.out.1.rc.below ((Below.refl _ wr).drew.trans h5.b)).ref HM.out.2.1 HM.out.2.2.1).mono ?_
          rintro e6 w6 ⟨v6, rfl, r6, b6⟩
          rw [HM.out.2.2.2.1] at r6
          exact ⟨_, rfl, ⟨h5.b.trans (b6.mono hz), fun _ => r6, fun q => absurd q (by decide)⟩⟩
        refine oblsH_cons rfl (stepH_value rfl rfl (fun _ _ _ => rfl)) ?_
        refine oblsH_cons rfl (stepH_make rfl rfl ?_) ?_
        · rintro ξ w5 h5
          exact ⟨ξ 8, w5, rfl, ⟨h5.b, fun q => absurd q (by decide), fun _ => ⟨h5.e rfl, rfl⟩⟩⟩
        refine oblsH_cons rfl (stepH_value rfl rfl (fun _ _ _ => rfl)) ?_
        exact oblsH_nil
      case hend27 =>
        rintro ξ w4 h4
        obtain ⟨f1, f2⟩ := h4.e2 rfl
        have hb := HM.out.1.below ((Below.refl _ wr).drew.trans h4.b)
        have H4 := Lib.hid (And.intro f1 (And.intro f2 hb))
        clear h4 f1 f2 hb s0 s1
        go_wp2_with fail
        go_ret3
        rw [H4.out.2.1]
        exact .inr ⟨HAN.out, _, _, rfl, by rw [← HM.out.2.2.2.2]; exact H4.out.2.2.gs, by rw [← HM.out.2.2.2.2]; exact H4.out.1, H4.out.2.2.old⟩
end Go.Sto
