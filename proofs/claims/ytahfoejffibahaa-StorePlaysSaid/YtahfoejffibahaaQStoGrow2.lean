/-
  Grow, where the block moves; Grow, as the plain model has it.
-/
import Derived.Laws.CopyRow
import Derived.Test.YtahfoejffibahaaQStoGrow
import Derived.Test.YtahfoejffibahaaQOwnRegionH
set_option linter.unusedVariables false

namespace Go.Sto
open Go.Own Go.RowKit Go.Proofs

section
variable {g : Ghost} {S : St} {w : World}

theorem resize_le {ws : List Int} {m : Nat} (h : ws.length ≤ m) : resize ws m = ws ++ zeros (m - ws.length) := by
  unfold resize
  rw [List.take_append, List.take_of_length_le h]
  congr 1
  simp [zeros, List.take_replicate]

set_option maxRecDepth 100000 in
/-- copy(dst, src): dst a row of zeros at least as long as src. -/
theorem copy_run {m b off cap b2 off2 cap2 : Nat} {ws : List Int} (ty : TypeId) (hd : SliceAt w 3 1 (.slice (some ⟨b, off, none⟩) m cap) (icells (zeros m))) (hs : SliceAt w 3 1 (.slice (some ⟨b2, off2, none⟩) ws.length cap2) (icells ws)) (hlt : ws.length ≤ m) :
    ∃ w', (Builtin.copy_ #[24, 24] ty #[.slice (some ⟨b, off, none⟩) m cap, .slice (some ⟨b2, off2, none⟩) ws.length cap2]).run Try.prog w = .ok (goInt ws.length) w' ∧ SliceAt w' 3 1 (.slice (some ⟨b, off, none⟩) m cap) (icells (resize ws m)) ∧ Turn (fun k => k = b) w w' ∧ KeepsOthers w w' := by
  rcases hd with ⟨h, -⟩ | ⟨g', off', n', cap', cur, hv, hg, hl, hn, hm, hsz, hx⟩
  · cases h
  · cases hv
    rw [Nat.mul_one] at hl hsz hx
    have hrun := run_copy_row (P := Try.prog) w 24 24 ty 3 b off m cap ⟨b2, off2, none⟩ ws.length cap2 cur 3 (icells ws) Try.underlying24 (by kernel_rfl) hg (by rw [icells_length]; show _ = min _ _; omega)
      (fun j v hj => by rw [Addr.add_lit]; exact hs.cells j v hj) (by rw [icells_length]; omega) (oneCell_icells _)
    rw [icells_length] at hrun
    have hcl : off + m ≤ cur.toList.length := by simp; omega
    refine ⟨_, hrun, .inr ⟨b, off, m, cap, _, rfl, setRow_heap w b _ _ _ _ hg, by simp [resize, zeros], hn, hm, ?_, ?_⟩, ⟨rfl, rfl, rfl, by simp [World.setRow], fun k hk hne => setRow_other w b k _ hne⟩, ?_⟩
    · simp; omega
    · have e1 : ∀ (L : List Value) (xs : List Value), off + m ≤ L.length → xs.length ≤ m → ((L.take off ++ xs ++ L.drop (off + xs.length)).drop off).take m = xs ++ ((L.drop off).take m).drop xs.length := by
        intro L xs h1 h2
        rw [List.append_assoc, List.drop_append_of_le_length (by simp; omega), List.drop_take, Nat.sub_self, List.take_zero, List.nil_append, List.take_append, List.take_of_length_le h2]
        congr 1
        rw [List.drop_take, List.drop_drop]
      have := e1 cur.toList (icells ws) hcl (by simpa using hlt)
      rw [icells_length] at this
      simp only [Nat.mul_one]
      rw [this, hx, resize_le hlt, icells_append, icells_zeros, icells_zeros, List.drop_replicate]
    · refine ⟨by simp [World.setRow], fun k o hk ho => ?_⟩
      by_cases e : k = b
      · subst e; rw [hg] at hk; cases hk; cases ho
      · rw [setRow_other w b k _ e]; exact hk

/-- Get: with the chain behind it. -/
def GetC (g : Ghost) (S : St) (k : Int) (m : Nat) (w : World) (e : Ending) (w' : World) : Prop :=
  (∃ er, er ≠ 0 ∧ get S k = (S, 0, er) ∧ e = .returned (.tuple #[.int .i64 0, .int .i64 er]) ∧ Below w.heap.size w w') ∨
  ∃ A x B, g.L = A ++ x :: B ∧ x.b.used = false ∧ m ≤ x.b.size ∧ e = .returned (.tuple #[.int .i64 ((sz (bs A) : Int) + 1), .int .i64 0]) ∧
    ∃ g' R v, bs R = rest x.b.size m ∧ g'.L = A ++ ⟨x.p, v, ⟨m, true, zeros (m - 1)⟩⟩ :: (R ++ B) ∧ Repo g' (bs g'.L) w' ∧ get S k = (bs g'.L, (sz (bs A) : Int) + 1, 0) ∧ Step g g' w w'

theorem get_chain (h : Repo g S w) {s : Nat} (hs : g.s = s) (k : Int) (h0 : 0 ≤ k) (h1 : k ≤ 32000) {m : Nat} (hm : need k = m) :
    Calls Try.prog 18 #[.pointer (some ⟨s, 0, none⟩), .int .i64 k] w (GetC g S k m w) := by
  subst hm
  refine (get_calls h.rep h.ok.le hs k h0 h1 rfl).mono ?_
  have hmap := h.rep.map
  rintro e w' (⟨hno, rfl, hB⟩ | ⟨A, x, B, hAB, hf, hne, rfl, g', R, v, hR, e2, r2, s2⟩)
  · have : get S k = (S, 0, 2) := by rw [get_model h0 h1, hmap, hit_none_of hno]
    exact .inl ⟨2, by decide, this, rfl, hB⟩
  · have eS : S = bs A ++ x.b :: bs B := by rw [hmap, hAB, bs_append, bs_cons]
    have : get S k = (bs A ++ ⟨need k, true, zeros (need k - 1)⟩ :: (rest x.b.size (need k) ++ bs B), (sz (bs A) : Int) + 1, 0) := by
      rw [get_model h0 h1, hmap, hAB, hit_some_of hf hne]
      simp only [cutAt, bs_append, bs_cons, take_left, drop_left]
    have hok' : Ok g.n (bs A ++ x.b :: bs B) := eS ▸ h.ok
    simp only [fits, Bool.and_eq_true, Bool.not_eq_true', decide_eq_true_eq] at hf
    have hbs : bs g'.L = bs A ++ ⟨need k, true, zeros (need k - 1)⟩ :: (rest x.b.size (need k) ++ bs B) := by rw [e2]; simp [hR]
    refine .inr ⟨A, x, B, hAB, hf.1, hf.2, rfl, g', R, v, hR, e2, ⟨r2, ?_⟩, by rw [this, hbs], s2⟩
    rw [s2.n, hbs]
    exact take_ok hok' hf.1 hf.2 (need_good k).1 (need_good k).2 _ (good_zeros (need_good k).1 (need_good k).2)

theorem other_split {A A1 B B1 : List Nd} {x x1 : Nd} (h : A1 ++ x1 :: B1 = A ++ x :: B) (hx : x1 ≠ x) (nd : Nd) (R : List Nd) (hs : nd.b.size + sz (bs R) = x1.b.size) :
    ∃ A2 B2, A1 ++ nd :: (R ++ B1) = A2 ++ x :: B2 ∧ sz (bs A2) = sz (bs A) := by
  rcases List.append_eq_append_iff.1 h with ⟨M, h1, h2⟩ | ⟨M, h1, h2⟩
  · cases M with
    | nil => simp only [List.nil_append, List.cons.injEq] at h2; exact absurd h2.1 hx
    | cons y M =>
      simp only [List.cons_append, List.cons.injEq] at h2
      obtain ⟨rfl, rfl⟩ := h2
      refine ⟨A1 ++ nd :: (R ++ M), B, by simp, ?_⟩
      rw [h1]
      simp only [bs_append, bs_cons, sz_append, sz]
      omega
  · cases M with
    | nil => simp only [List.nil_append, List.cons.injEq] at h2; exact absurd h2.1.symm hx
    | cons y M =>
      simp only [List.cons_append, List.cons.injEq] at h2
      obtain ⟨rfl, rfl⟩ := h2
      exact ⟨A, M ++ nd :: (R ++ B1), by rw [h1]; simp, rfl⟩

def TightPost (g : Ghost) (S : St) (a k : Int) (w : World) (e : Ending) (w' : World) : Prop :=
  e = .returned (.tuple #[.int .i64 (grow S a k).2.1, .int .i64 (grow S a k).2.2]) ∧ ∃ g', Repo g' (grow S a k).1 w' ∧ Step g g' w w'

/-- What the copy leaves. -/
def Moved (g : Ghost) (A : List Nd) (x : Nd) (B : List Nd) (w0 w : World) : Prop := ∃ g', g'.L = A ++ x :: B ∧ Repo g' (bs g'.L) w ∧ Step g g' w0 w

theorem stepH_copy {P : Program} {l : List Oper} {eff : List Nat} {aX : (Nat → Value) → Act} {PI : Nat → (Nat → Value) → World → Prop} {i s s' : Nat} {o : Oper} (hg : o.guard = none) (he : eff.contains i = true) (a x : Operand) (t u : TypeId) (hop : o.op = Op.call { callee := Callee.builtin Builtin.copy, args := #[a, x], argTypes := #[t, u] })
    (h : ∀ ξ w, PI s ξ w → ∃ v w', (Builtin.copy_ #[t, u] o.type #[(aX ξ).eval a, (aX ξ).eval x]).run P w = .ok v w' ∧ PI s' (updV ξ i v) w') : StepH P l eff aX PI i s s' o :=
  stepH_make hg he fun ξ w hp => by
    obtain ⟨v, w', hr, hq⟩ := h ξ w hp
    exact ⟨v, w', by simp [execOp, hop, resolve, invoke, builtin, hr, Result.andThen], hq⟩

theorem SliceAt.below' {w w' : World} {e : TypeId} {sz : Nat} {v : Value} {xs : List Value} (h : SliceAt w e sz v xs) (hB : Below w.drew.heap.size w.drew w') : SliceAt w' e sz v xs :=
  h.keep fun k hk => hB.block k (h.lt k hk)

/-- The stages of 'copy(s.used(to).words, b.words)'. -/
def StM (w4 : World) (yp : Nat) (F : World → Prop) (s : Nat) (ξ : Nat → Value) (w : World) : Prop :=
  match s with
  | 0 => w = w4.drew
  | 1 => ξ 2 = .pointer (some ⟨yp, 0, none⟩) ∧ Below w4.drew.heap.size w4.drew w
  | _ => F w

theorem wf_resize {ws : List Int} (h : ∀ v ∈ ws, (Lit.int .i64 v).wf = true) (m : Nat) : ∀ v ∈ resize ws m, (Lit.int .i64 v).wf = true := by
  intro v hv
  unfold resize at hv
  rcases List.mem_append.1 (List.mem_of_mem_take hv) with q | q
  · exact h v q
  · simp [zeros] at q; rw [q.2]; rfl

theorem at_first {A : List Nd} (h : ∀ b ∈ bs A, 2 ≤ b.size) : ∀ A' y B', A = A' ++ y :: B' → isAt ((sz (bs A) : Int) + 1) (sz (bs A')) y.b = false := by
  intro A' y B' e
  have h1 := h y.b (by rw [e]; simp)
  have h2 : sz (bs A) = sz (bs A') + (y.b.size + sz (bs B')) := by rw [e, bs_append, sz_append]; rfl
  simp only [isAt, Bool.and_eq_false_iff, decide_eq_false_iff_not]
  right; omega

theorem Repo.drew {g : Ghost} {S : St} {w : World} (h : Repo g S w) : Repo g S w.drew := ⟨h.rep.drew, h.ok⟩

/-- The words of a block in use are others: with the chain. -/
theorem Repo.moved {w' : World} (h : Repo g S w) {A B : List Nd} {x : Nd} (hAB : g.L = A ++ x :: B) {b off cap : Nat} (hv : x.v = .slice (some ⟨b, off, none⟩) x.b.ws.length cap) (ws : List Int) (hl : ws.length = x.b.ws.length) (hw : ∀ v ∈ ws, (Lit.int .i64 v).wf = true)
    (hko : KeepsOthers w w') (t : Turn (fun k => k = b) w w') (hs : SliceAt w' 3 1 (.slice (some ⟨b, off, none⟩) x.b.ws.length cap) (icells ws)) : Moved g A ⟨x.p, x.v, ⟨x.b.size, x.b.used, ws⟩⟩ B w w' := by
  have hxL : x ∈ g.L := by rw [hAB]; simp
  have hbt : g.ρ b = (2, (x.p : Int)) := (h.rep.wv x hxL).2 b (by rw [hv]; rfl)
  have hne : x.p ≠ b := fun e => by have := h.rep.tp x hxL; rw [e, hbt] at this; cases this
  have eS : S = bs A ++ x.b :: bs B := by rw [h.rep.map, hAB, bs_append, bs_cons]
  obtain ⟨g', e1, r1, s1⟩ := h.rep.refill hAB ⟨x.b.size, x.b.used, ws⟩ rfl x.v hko (t.mono fun k _ hk => by rw [hk]; exact .inr hbt)
    (by rw [t.block x.p (h.rep.plt hxL) hne]; exact h.rep.mid hAB)
    (by rw [hv]; exact hs) (fun k hk => by rw [hv] at hk; cases hk; exact .inr hbt)
  refine ⟨g', e1, ⟨r1, ?_⟩, s1⟩
  rw [e1, s1.n]
  have := set_ok (eS ▸ h.ok) ws hl hw
  simpa using this

set_option maxRecDepth 100000 in
set_option maxHeartbeats 4000000 in
theorem grow_tight_calls (h : Repo g S w) {s : Nat} (hs : g.s = s) {a : Int} (k : Int) (h0 : 0 ≤ k) (h1 : k ≤ 32000) {A B : List Nd} {x : Nd} (hAB : g.L = A ++ x :: B) (hat : isAt a (sz (bs A)) x.b = true) (hne : ∀ A' y B', A = A' ++ y :: B' → isAt a (sz (bs A')) y.b = false)
    {m : Nat} (hm : need k = m) (hb : Tight x.b (bs B) m) :
    Calls Try.prog 20 #[.pointer (some ⟨s, 0, none⟩), .int .i64 a, .int .i64 k] w (TightPost g S a k w) := by
  subst hs
  have hm0 : 2 ≤ m ∧ m ≤ 32002 := by unfold need at hm; omega
  have q1 : decide (k < 0) = false := by simp; omega
  have q2 : decide (32000 < k) = false := by simp; omega
  have hsz := sz_le_of h hAB
  have hu := used_of hat
  have hc := Lib.hid (used_hit h.rep h.ok.le rfl hAB hat hne)
  have HM := Lib.hid hm
  have HR := Lib.hid (And.intro h (And.intro hAB (And.intro hat hne)))
  have hlt := hb.1
  have HT := Lib.hid hb.2
  have HU := Lib.hid hu
  clear hne hat hAB h hm hb hu
  go_enter Try.func20, Try.ntmps20
  go_upto_region 9 with (first
    | (go_at_call 48; refine hc.out.mono ?_; rintro e w1 ⟨rfl, hB⟩; have HB := Lib.hid hB; clear hB)
    | (go_at_call 45; refine (need_calls' k h0 h1 HM.out _).mono ?_; rintro e w1 ⟨rfl, rfl⟩))
  have hq : decide (((x.b.size : Nat) : Int) < m) = true := by simp; omega
  have hq0 : decide (x.b.size < m) = true := by simp; omega
  go_cut [68] from 30 to 68 (fun v wx => v = .bool false ∧ Below w1.heap.size w1 wx)
  case first =>
    have r1 := HR.out.1.rep.below HB.out (Nat.le_refl _)
    obtain ⟨-, c1, -, -, c4, -, -⟩ := nd_cells (r1.mid HR.out.2.1)
    cases B with
    | nil =>
      simp only [hd, ptr_none] at c4
      clear r1
      go_quiet (fail)
      go_wp2_with fail
      go_meet
      exact ⟨rfl, below_drewN (Below.refl _ _) _⟩
    | cons y C =>
      have e2 : g.L = (A ++ [x]) ++ y :: C := by rw [HR.out.2.1]; simp
      obtain ⟨-, d1, d2, -⟩ := nd_cells (r1.mid e2)
      simp only [hd, ptr_some] at c4
      have hsum : x.b.size + y.b.size ≤ 32000 := by simp [sz] at hsz; omega
      have hw1 : IntKind.i64.wrap (((x.b.size : Nat) : Int) + (y.b.size : Nat)) = ((x.b.size : Nat) : Int) + (y.b.size : Nat) := IntWalk.i64_in _ (by omega)
      rcases hyu : y.b.used with _ | _
      · rw [hyu] at d2
        have hq3 : decide ((m : Int) ≤ ((x.b.size : Nat) : Int) + (y.b.size : Nat)) = false := by
          have := HT.out _ _ rfl
          simp [hyu] at this ⊢; omega
        clear hyu r1 e2
        go_quiet (fail)
        go_wp2_with fail
        go_meet
        exact ⟨rfl, below_drewN (Below.refl _ _) _⟩
      · rw [hyu] at d2
        clear hyu r1 e2 hw1 hsum d1
        go_quiet (fail)
        go_wp2_with fail
        go_meet
        exact ⟨rfl, below_drewN (Below.refl _ _) _⟩
  case rest =>
    obtain ⟨rfl, hB2⟩ := hcut
    have hBw : Below w.heap.size w wc := HB.out.trans (hB2.mono HB.out.size)
    have h2 : Repo g S wc := ⟨HR.out.1.rep.below hBw (Nat.le_refl _), HR.out.1.ok⟩
    obtain ⟨-, c1, -, -, c4, -, -⟩ := nd_cells (h2.rep.mid HR.out.2.1)
    have HG := Lib.hid (And.intro (get_chain h2 rfl k h0 h1 HM.out) (And.intro (Step.bel (g := g) hBw) h2))
    clear hB2 hBw h2 c4
    go_wp2_with fail
    refine HG.out.1.mono ?_
    rintro e w4 (⟨er, he, hget, rfl, hB4⟩ | ⟨A1, y1, B1, hAB1, hfu, hfs, rfl, g4, R, v, hR, e4, r4, hget, s4⟩)
    · have hq4 : (er == 0) = false := beq_eq_false_iff_ne.2 he
      have hq5 : (er != 0) = true := by simp [he]
      have HF := Lib.hid (And.intro he (And.intro hget hB4))
      clear he hget hB4
      go_wp2_with fail
      go_ret2
      have eS : S = bs A ++ x.b :: bs B := by rw [HR.out.1.rep.map, HR.out.2.1, bs_append, bs_cons]
      have hfind : find a S = some (bs A).length := by rw [bs_length]; exact find_some_of HR.out.1.rep.map HR.out.2.1 HR.out.2.2.1 HR.out.2.2.2
      have hgr : grow S a k = (S, 0, er) := by
        have := grow_fail (A := bs A) (x := x.b) (B := bs B) (a := a) (k := k) (by rw [← eS]; exact hfind) h0 h1 (by rw [HM.out]; exact ⟨hlt, HT.out⟩) (by rw [← eS]; exact HF.out.2.1) HF.out.1
        rw [← eS] at this; exact this
      unfold TightPost
      rw [hgr]
      exact ⟨rfl, g, ⟨HG.out.2.2.rep.below HF.out.2.2 (Nat.le_refl _), HR.out.1.ok⟩, HG.out.2.1.trans (Step.bel (g := g) HF.out.2.2)⟩
    · have hxy : y1 ≠ x := fun e => by rw [e, HU.out] at hfu; cases hfu
      have hsR : m + sz (bs R) = y1.b.size := by rw [hR, rest_sum hfs]; omega
      obtain ⟨A2, B2, e5, hA2⟩ := other_split (hAB1.symm.trans HR.out.2.1) hxy ⟨y1.p, v, ⟨m, true, zeros (m - 1)⟩⟩ R hsR
      have e5' : g4.L = A2 ++ x :: B2 := e4.trans e5
      have hgood4 : ∀ b ∈ bs A1, 2 ≤ b.size := fun b hb => by
        have := (r4.ok.good b (by rw [e4, bs_append]; simp [hb])).two; exact this
      have hus := used_hit r4.drew.rep r4.ok.le s4.s e4 (a := (sz (bs A1) : Int) + 1) (by simp [isAt]) (at_first hgood4)
      obtain ⟨bd, od, cd, hvd, hnd, hcd, hsd, hrd, -, -⟩ := r4.nd e4 rfl
      obtain ⟨bx, ox, cx, hvx, hnx, hcx, hsx, hrx, hfx, -⟩ := r4.nd e5' HU.out
      have hlz : (zeros (m - 1)).length = m - 1 := by simp [zeros]
      simp only at hvd hsd
      rw [hlz] at hvd hsd
      have cy : w4.cell? ⟨y1.p, 3, none⟩ = some (.slice (some ⟨bd, od, none⟩) (m - 1) cd) := by rw [← hvd]; exact (nd_cells (r4.rep.mid e4)).2.2.2.1
      have cx3 : w4.cell? ⟨x.p, 3, none⟩ = some (.slice (some ⟨bx, ox, none⟩) x.b.ws.length cx) := by rw [← hvx]; exact (nd_cells (r4.rep.mid e5')).2.2.2.1
      have hwl : x.b.ws.length ≤ m - 1 := by omega
      have HK := Lib.hid (And.intro hus (And.intro e4 (And.intro e5' (And.intro r4 (And.intro hvd (And.intro hsd (And.intro hsx (And.intro hrd s4))))))))
      have HL := Lib.hid (And.intro hget (And.intro hA2 (And.intro hAB1 (And.intro hxy (And.intro hsR (And.intro hgood4 hwl))))))
      clear hus e4 e5 e5' r4 hvd hsd hsx hrd s4 hget hA2 hAB1 hxy hsR hgood4 hwl hvx hrx hfx hnd hnx hR hfu hfs hlz
      go_upto_region 15 with fail
      go_cut [] from 86 to 96 (fun wx => Moved g4 A1 ⟨y1.p, v, ⟨m, true, resize x.b.ws (m - 1)⟩⟩ (R ++ B1) w4 wx)
      case first =>
        refine wp_region_planH (aX := ?aX1) [2, 10] [[], [2], [2, 10]] 2 [(0, 0, 0), (1, 0, 0), (2, 0, 1), (3, 1, 1), (4, 1, 1), (5, 1, 1), (6, 0, 0), (6, 1, 1), (6, 2, 2), (7, 0, 0), (7, 1, 1), (8, 0, 0), (8, 1, 1), (9, 0, 0), (9, 1, 1), (10, 1, 2)]
          [.pointer (some ⟨g.s, 0, none⟩), .int .i64 ((sz (bs A1) : Int) + 1), undef, .pointer (some ⟨y1.p, 0, none⟩), .pointer (some ⟨y1.p, 3, none⟩), .slice (some ⟨bd, od, none⟩) (m - 1) cd, .pointer (some ⟨x.p, 0, none⟩), .pointer (some ⟨x.p, 0, none⟩), .pointer (some ⟨x.p, 3, none⟩), .slice (some ⟨bx, ox, none⟩) x.b.ws.length cx, undef]
          (StM w4 y1.p (fun wx => Moved g4 A1 ⟨y1.p, v, ⟨m, true, resize x.b.ws (m - 1)⟩⟩ (R ++ B1) w4 wx)) (by kernel_rfl) (by kernel_rfl) rfl ?hX1 (fun _ => undef) ?h01 ?hob1 ?hend1
        case hX1 => intro ξ; simp only [mixAll, Act.put]; go_simp; rfl
        case h01 => exact rfl
        case hob1 =>
          have ld : ∀ {s ξ w}, StM w4 y1.p (fun wx => Moved g4 A1 ⟨y1.p, v, ⟨m, true, resize x.b.ws (m - 1)⟩⟩ (R ++ B1) w4 wx) s ξ w → s ≤ 1 → w.cell? ⟨y1.p, 3, none⟩ = some (.slice (some ⟨bd, od, none⟩) (m - 1) cd) ∧ w.cell? ⟨x.p, 3, none⟩ = some (.slice (some ⟨bx, ox, none⟩) x.b.ws.length cx) := by
            intro s ξ w h hs
            match s, hs, h with
            | 0, _, h =>
              have h' : w = w4.drew := h
              subst h'
              exact ⟨cy, cx3⟩
            | 1, _, h => exact ⟨(h.2.cell (p := ⟨y1.p, 3, none⟩) (cell_lt cy)).trans cy, (h.2.cell (p := ⟨x.p, 3, none⟩) (cell_lt cx3)).trans cx3⟩
          repeat' (first
            | exact oblsH_nil
            | (refine oblsH_cons rfl ?_ ?_)
            | exact stepH_value rfl rfl (fun _ _ _ => rfl))
          · refine stepH_call rfl rfl ?_
            rintro ξ w h
            have h' : w = w4.drew := h
            subst h'
            refine ⟨48, #[.pointer (some ⟨g.s, 0, none⟩), .int .i64 ((sz (bs A1) : Int) + 1)], ?_, ?_⟩
            · go_simp
            · refine HK.out.1.mono ?_
              rintro e w5 ⟨rfl, hB5⟩
              exact ⟨_, rfl, rfl, hB5⟩
          · refine stepH_value rfl rfl ?_
            rintro ξ w h
            have hx : ξ 2 = .pointer (some ⟨y1.p, 0, none⟩) := h.1
            clear h
            show _ = _
            go_simp
            rfl
          all_goals first
            | (refine stepH_value rfl rfl ?_
               rintro ξ w h
               obtain ⟨k1, k2⟩ := ld h (by decide)
               clear h
               show _ = _
               go_simp
               rfl)
            | skip
          refine stepH_copy rfl rfl _ _ _ _ rfl ?_
          rintro ξ w h
          have hB5 := h.2
          have hr5 : Repo g4 (bs g4.L) w := ⟨HK.out.2.2.2.1.drew.rep.below hB5 (Nat.le_refl _), HK.out.2.2.2.1.ok⟩
          obtain ⟨w6, hrun, hs6, ht6, hk6⟩ := copy_run 3 (SliceAt.below' HK.out.2.2.2.2.2.1 hB5) (SliceAt.below' HK.out.2.2.2.2.2.2.1 hB5) HL.out.2.2.2.2.2.2
          obtain ⟨g6, e6, r6, s6⟩ := hr5.moved HK.out.2.1 (by simpa [zeros] using HK.out.2.2.2.2.1) (resize x.b.ws (m - 1)) (by simp [resize, zeros]) (wf_resize (HK.out.2.2.2.1.ok.good x.b (by rw [HK.out.2.2.1]; simp)).wf _) hk6 ht6 (by simpa [zeros] using hs6)
          exact ⟨_, w6, hrun, g6, e6, r6, ((Step.refl g4 w4).drew.trans (Step.bel hB5)).trans s6⟩
        case hend1 =>
          rintro ξ w5 h
          have h' : Moved g4 A1 ⟨y1.p, v, ⟨m, true, resize x.b.ws (m - 1)⟩⟩ (R ++ B1) w4 w5 := h
          have H' := Lib.hid h'
          clear h h'
          go_wp2_with fail
          go_meet
          exact H'.out
      case rest =>
        obtain ⟨g6, e6, r6, s6⟩ := hcut
        obtain ⟨A3, B3, e7, hA3⟩ := other_split (HL.out.2.2.1.symm.trans HR.out.2.1) HL.out.2.2.2.1 ⟨y1.p, v, ⟨m, true, resize x.b.ws (m - 1)⟩⟩ R HL.out.2.2.2.2.1
        have e7' : g6.L = A3 ++ x :: B3 := e6.trans e7
        have hfc := free_calls r6.rep e7' r6.ok.le r6.ok.bare (p := x.p) rfl
        have HFC := Lib.hid (And.intro hfc (And.intro e6 (And.intro e7' (And.intro r6 (And.intro s6 hA3)))))
        clear e6 e7 e7' r6 s6 hA3 hfc
        go_wp2_with fail
        refine HFC.out.1.mono ?_
        rintro e w7 ⟨rfl, g7, e8, r7, s7⟩
        have H7 := Lib.hid (And.intro e8 (And.intro r7 s7))
        clear e8 r7 s7
        go_wp2_with fail
        go_ret2
        have eS : S = bs A ++ x.b :: bs B := by rw [HR.out.1.rep.map, HR.out.2.1, bs_append, bs_cons]
        have hfind : find a S = some (bs A).length := by rw [bs_length]; exact find_some_of HR.out.1.rep.map HR.out.2.1 HR.out.2.2.1 HR.out.2.2.2
        have haA : (sz (bs A) : Int) + 1 = a := by have := HR.out.2.2.1; simp [isAt] at this; exact this.2
        have hT : bs g4.L = bs A1 ++ ⟨m, true, zeros (m - 1)⟩ :: bs (R ++ B1) := by rw [HK.out.2.1, bs_append, bs_cons]
        have hfT : find ((sz (bs A1) : Int) + 1) (bs g4.L) = some (bs A1).length := by rw [hT]; exact find_at HL.out.2.2.2.2.2.1 rfl
        have hgr := grow_moves (A := bs A) (x := x.b) (B := bs B) (a := a) (k := k) (by rw [← eS]; exact hfind) h0 h1 (by rw [HM.out]; exact ⟨hlt, HT.out⟩) (by rw [← eS]; exact HL.out.1) hfT
        rw [← eS, HM.out] at hgr
        have hset : setWords (bs g4.L) (bs A1).length (resize x.b.ws (m - 1)) = bs g6.L := by
          rw [hT, HFC.out.2.1]; unfold setWords; rw [drop_left, take_left]; simp
        rw [hset] at hgr
        have hg6 : bs g6.L = bs A3 ++ x.b :: bs B3 := by rw [HFC.out.2.2.1, bs_append, bs_cons]
        have hok6 : Ok g6.n (bs A3 ++ x.b :: bs B3) := hg6 ▸ HFC.out.2.2.2.1.ok
        have hfa : find a (bs g6.L) = some (bs A3).length := by
          rw [hg6, ← haA, ← HFC.out.2.2.2.2.2]
          exact find_at (fun b hb => (hok6.good b (by simp [hb])).two) HU.out
        have hput : put (bs g6.L) a = (bs g7.L, 0) := by
          unfold put
          rw [hfa]
          simp only [freeAt, hg6, take_left, drop_left]
          rw [fuse_free hok6.norm, H7.out.1]
        rw [hput] at hgr
        unfold TightPost
        rw [hgr]
        refine ⟨rfl, g7, ⟨H7.out.2.1, ?_⟩, ((HG.out.2.1.trans HK.out.2.2.2.2.2.2.2.2).trans HFC.out.2.2.2.2.1).trans H7.out.2.2⟩
        rw [H7.out.2.2.n, H7.out.1, ← fuse_free hok6.norm]
        exact put_ok hok6

theorem grow_calls (h : Repo g S w) {s : Nat} (hs : g.s = s) (a k : Int) :
    Calls Try.prog 20 #[.pointer (some ⟨s, 0, none⟩), .int .i64 a, .int .i64 k] w fun e w' => e = .returned (.tuple #[.int .i64 (grow S a k).2.1, .int .i64 (grow S a k).2.2]) ∧ ∃ g', Repo g' (grow S a k).1 w' ∧ Step g g' w w' := by
  rcases find_cases h.rep.map a with ⟨hf, hno⟩ | ⟨A, x, B, hAB, hat, hne, hf⟩
  · refine (grow_none_calls h hs k hno).mono ?_
    rintro e w' ⟨rfl, hB⟩
    rw [grow_bad hf]
    exact ⟨rfl, g, ⟨h.rep.below hB (Nat.le_refl _), h.ok⟩, Step.bel hB⟩
  · by_cases hk : k < 0 ∨ 32000 < k
    · refine (grow_range_calls h hs k hk hAB hat hne).mono ?_
      rintro e w' ⟨rfl, hB⟩
      rw [grow_range hf hk]
      exact ⟨rfl, g, ⟨h.rep.below hB (Nat.le_refl _), h.ok⟩, Step.bel hB⟩
    · have h0 : 0 ≤ k := by omega
      have h1 : k ≤ 32000 := by omega
      rcases tight_or x.b (bs B) (need k) with hb | ⟨SB, hb⟩
      · exact grow_tight_calls h hs k h0 h1 hAB hat hne rfl hb
      · refine (grow_stay_calls h hs k h0 h1 hAB hat hne rfl hb).mono ?_
        rintro e w' ⟨rfl, g', e', r', s'⟩
        have eS : S = bs A ++ x.b :: bs B := by rw [h.rep.map, hAB, bs_append, bs_cons]
        have hok : Ok g.n (bs A ++ x.b :: bs B) := eS ▸ h.ok
        have hgr := grow_stays (A := bs A) (x := x.b) (B := bs B) (a := a) (k := k) (by rw [← eS, bs_length]; exact hf) (behind_facts hok hb).2.2 h0 h1 hb
        rw [← eS] at hgr
        rw [hgr]
        refine ⟨rfl, g', ⟨e' ▸ r', ?_⟩, s'⟩
        rw [s'.n]
        exact grow_ok hok (used_of hat) hb
end
end Go.Sto
