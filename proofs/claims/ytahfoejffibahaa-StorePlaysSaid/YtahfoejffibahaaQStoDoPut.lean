/-
  A player's call of Put, walked.
-/
import Derived.StillTailTactics
import Derived.Test.YtahfoejffibahaaQStoDel
import Derived.Test.YtahfoejffibahaaQOwnRegionH
set_option linter.unusedVariables false

namespace Go.Sto
open Go.Own Go.RowKit Go.Proofs

theorem PM.del {w0 w w' : World} {g : Ghost} {pb : Nat} {S : St} {m : Lab} {bg bt bl gv tv lv v' : Value} {gave took live l : List Int} (h : PM w0 g pb S m bg bt bl gv tv lv gave took live w) (ht : Turn (fun k => lv.ownBlock = some k) w w') (hv : SliceAt w' 3 1 v' (icells l)) (hw : v'.ownBlock = lv.ownBlock) :
    PM w0 g pb S (relab m w.heap.size w'.heap.size 4) bg bt bl gv tv v' gave took l w' := h.app_l ht hv (.inl hw)

theorem put_errno (S : St) (a : Int) : (put S a).2 = 0 ∨ (put S a).2 = 180 := by
  unfold put; cases find a S <;> simp

set_option maxRecDepth 100000 in
set_option maxHeartbeats 2000000 in
theorem do_put_off {w0 w : World} {g : Ghost} {pb : Nat} {S : St} {m : Lab} {gv tv lv : Value} {gave took live : List Int} (h : PM w0 g pb S m gv tv lv gv tv lv gave took live w) (k : Int) (hk : k < 0 ∨ took.length ≤ k ∨ took.getD k.toNat 0 = 0) :
    Calls Try.prog 40 #[.pointer (some ⟨pb, 0, none⟩), .int .i64 1, .int .i64 k] w (DoPost w0 g pb gv tv gave took (S, live, 0)) := by
  have c2 : w.cell? ⟨pb, 2, none⟩ = some tv := cell_at h.blk rfl
  obtain ⟨ta, tc, rfl, hn1, hn2, hcell⟩ := ints_form h.ts.1
  have H := Lib.hid h
  have fin : DoPost w0 g pb gv (.slice ta took.length tc) gave took (S, live, 0) (.returned (.int .i64 0)) w := ⟨rfl, g, m, lv, h, rfl, rfl⟩
  have HF := Lib.hid fin
  clear fin h
  rcases Int.lt_or_le k 0 with h0 | h0
  · have q1 : decide (k < 0) = true := decide_eq_true h0
    clear hk hcell
    go_enter Try.func40, Try.ntmps40
    go_wp2
    go_ret
    exact HF.out
  · obtain ⟨j, rfl⟩ := Int.eq_ofNat_of_zero_le h0
    have q1 : decide ((j : Int) < 0) = false := by simp
    by_cases hj : j < took.length
    · have hz : took[j]? = some 0 := by
        have : took.getD j 0 = 0 := by
          rcases hk with q | q | q
          · omega
          · omega
          · simpa using q
        rw [List.getElem?_eq_getElem hj]
        simpa [List.getD, hj] using this
      obtain ⟨b, off, rfl, cz⟩ := hcell j 0 hz
      have q2 : decide ((took.length : Int) ≤ j) = false := by simp; omega
      have q3 : decide (took.length ≤ j) = false := by simp; omega
      clear hk hcell hz
      go_enter Try.func40, Try.ntmps40
      go_wp2
      go_ret
      exact HF.out
    · have q2 : decide ((took.length : Int) ≤ j) = true := by simp; omega
      have q3 : decide (took.length ≤ j) = true := by simp; omega
      clear hk hcell
      go_enter Try.func40, Try.ntmps40
      go_wp2
      go_ret
      exact HF.out

set_option maxRecDepth 100000 in
set_option maxHeartbeats 2000000 in
theorem do_put_on {w0 w : World} {g : Ghost} {pb : Nat} {S : St} {m : Lab} {gv tv lv : Value} {gave took live : List Int} (h : PM w0 g pb S m gv tv lv gv tv lv gave took live w) (hl : live.length ≤ 1000) (j : Nat) (a : Int) (hj : took[j]? = some a) (ha : a ≠ 0) :
    Calls Try.prog 40 #[.pointer (some ⟨pb, 0, none⟩), .int .i64 1, .int .i64 j] w (DoPost w0 g pb gv tv gave took ((put S a).1, if (put S a).2 = 0 then live.filter (fun x => x != a) else live, toldM 0 (put S a).2)) := by
  have c0 : w.cell? ⟨pb, 0, none⟩ = some (.pointer (some ⟨g.s, 0, none⟩)) := cell_at h.blk rfl
  have c2 : w.cell? ⟨pb, 2, none⟩ = some tv := cell_at h.blk rfl
  have hpb := heap_lt h.blk
  obtain ⟨ta, tc, rfl, hn1, hn2, hcell⟩ := ints_form h.ts.1
  obtain ⟨b, off, rfl, cz⟩ := hcell j a hj
  have hbl := cell_lt cz
  have hjl : j < took.length := (List.getElem?_eq_some_iff.1 hj).1
  have q1 : decide ((j : Int) < 0) = false := by simp
  have q2 : decide ((took.length : Int) ≤ j) = false := by simp; omega
  have q3 : decide (took.length ≤ j) = false := by simp; omega
  have q4 : (a == 0) = false := beq_eq_false_iff_ne.2 ha
  have hfr : (g.ρ w.heap.size).1 = 0 := h.repo.rep.fresh _ (Nat.le_refl _)
  have hlvB : ∀ b, lv.ownBlock = some b → b ≠ w.heap.size := fun b hb e => by have := h.ls.1.lt b hb; omega
  have h1 := (h.below ((Below.refl w.heap.size w).alloc (Nat.le_refl _) (.cells #[.int .i64 a] 3))).drew
  have hput := put_calls h1.repo rfl a
  have herr := put_errno S a
  obtain ⟨⟨S1, E⟩, hgt⟩ : ∃ r, put S a = r := ⟨_, rfl⟩
  rw [hgt] at hput herr ⊢
  simp only at hput herr ⊢
  have HP := Lib.hid hput
  have H1 := Lib.hid h1
  have HC := Lib.hid (cell_new_l w (.int .i64 a) 3).1
  clear hput h1 hcell hj ha hgt h
  obtain ⟨r, hr⟩ : ∃ r, (S1, if E = 0 then live.filter (fun x => x != a) else live, toldM 0 E) = r := ⟨_, rfl⟩
  rw [hr]
  have HR := Lib.hid hr
  clear hr
  go_enter Try.func40, Try.ntmps40
  go_wp2_with fail
  have k0 : (w.alloc (.cells #[.int .i64 a] 3)).cell? ⟨pb, 0, none⟩ = some (.pointer (some ⟨g.s, 0, none⟩)) := cell_alloc_l _ c0
  have kB := HC.out
  have hsz : (w.alloc (.cells #[.int .i64 a] 3)).heap.size = w.heap.size + 1 := by simp
  have H1o := H1.out
  have HPo := HP.out
  clear H1 HP HC
  obtain ⟨wa, hwa⟩ : ∃ x, w.alloc (.cells #[.int .i64 a] 3) = x := ⟨_, rfl⟩
  rw [hwa] at k0 kB hsz H1o HPo ⊢
  have H1 := Lib.hid H1o
  have HP := Lib.hid HPo
  clear H1o HPo hwa c0 c2 cz
  go_still_tail 5, (by kernel_rfl)
  repeat still_step
  change wpList _ _ _ _ _ wa.drew
  go_wp2_with fail
  refine HP.out.mono ?_
  rintro e1 w1 ⟨rfl, g1, r1, s1⟩
  have h2 := H1.out.step r1 s1
  have hB1 : w1.cell? ⟨w.heap.size, 0, none⟩ = some (.int .i64 a) := (s1.turn.cell (p := ⟨w.heap.size, 0, none⟩) (fun hh => hh hfr) (by simp [hsz])).trans kB
  by_cases hE : E = 0
  · subst hE
    have hdel := Lib.hid (del_calls h2.ls.1 hl a w.heap.size hB1 hlvB)
    have c3 : w1.cell? ⟨pb, 3, none⟩ = some lv := cell_at h2.blk rfl
    have H2 := Lib.hid (And.intro h2 (And.intro s1.s s1.n))
    clear h2 r1 s1 hlvB herr
    go_wp2_with fail
    refine hdel.out.mono ?_
    rintro e2 w2 ⟨v2, rfl, hv2, ht2, hb2⟩
    have h3 := H2.out.1.del ht2 hv2 hb2
    have d3 : (w2.cell? ⟨pb, 3, none⟩).isSome = true := by rw [cell_at h3.blk rfl]; rfl
    have f3 : ∀ i, w2.frozen? ⟨pb, i, none⟩ = false := fun i => frozen_at h3.blk
    have d3' : w2.cell? ⟨pb, 3, none⟩ = some lv := cell_at h3.blk rfl
    obtain ⟨m3, h4⟩ := h3.sto 3 v2 (bg' := gv) (bt' := .slice (some ⟨b, off, none⟩) took.length tc) (bl' := v2) rfl
    obtain ⟨pa, pn, pc, rfl, -⟩ := hv2.form
    have H4 := Lib.hid h4
    clear h3 h4 hv2 ht2 hb2 c3
    go_wp2_with (go_at_call 64; refine (told_calls 0 0 (by decide) (by decide) _).mono ?_; rintro e4 w4 ⟨rfl, rfl⟩)
    go_ret
    rw [← HR.out]
    exact ⟨rfl, g1, m3, _, by simpa using H4.out, H2.out.2.1, H2.out.2.2⟩
  · have hE0 : E = 180 := herr.resolve_left hE
    subst hE0
    have H2 := Lib.hid (And.intro h2 (And.intro s1.s s1.n))
    clear h2 r1 s1 hlvB hE
    go_wp2_with (go_at_call 64; refine (told_calls 0 180 (by decide) (by decide) _).mono ?_; rintro e4 w4 ⟨rfl, rfl⟩)
    go_ret
    rw [← HR.out]
    exact ⟨rfl, g1, m, lv, by simpa using H2.out.1, H2.out.2.1, H2.out.2.2⟩
end Go.Sto

/-
  The two appends of a round of Play, in any order: what holds at each stage.
-/
namespace Go.Sto
open Go.Own Go.RowKit Go.Proofs

def New1 (m : Lab) (x : Nat) (w : World) (v : Value) (d : Int) : Prop := ∃ n, v = .slice (some ⟨n, 0, none⟩) 1 1 ∧ w.heap[n]? = some (.cells #[.int .i64 d] 3 (0, 0)) ∧ m n = x

theorem New1.keep {m m' : Lab} {x : Nat} {w w' : World} {v : Value} {d : Int} (h : New1 m x w v d) (hb : ∀ k, k < w.heap.size → m k = x → w'.heap[k]? = w.heap[k]?) (hm : ∀ k, k < w.heap.size → m' k = m k) : New1 m' x w' v d := by
  obtain ⟨n, h1, h2, h3⟩ := h
  have hl := heap_lt h2
  exact ⟨n, h1, by rw [hb n hl h3]; exact h2, by rw [hm n hl]; exact h3⟩

structure RI (w0 : World) (g : Ghost) (pb : Nat) (S : St) (gv tv lv : Value) (gave took live : List Int) (d e : Int) (f7 f15 f8 f16 f19 f22 : Bool) (ξ : Nat → Value) (w : World) (m : Lab) : Prop where
  pm : PM w0 g pb S m (bif f19 then ξ 8 else gv) (bif f22 then ξ 16 else tv) lv (bif f8 then ξ 8 else gv) (bif f16 then ξ 16 else tv) lv (bif f8 then gave ++ [d] else gave) (bif f16 then took ++ [e] else took) live w
  n7 : (f7 && !f8) = true → New1 m 5 w (ξ 7) d
  n15 : (f15 && !f16) = true → New1 m 6 w (ξ 15) e

section
variable {w0 w : World} {g : Ghost} {pb : Nat} {S : St} {gv tv lv : Value} {gave took live : List Int} {d e : Int} {f7 f15 f8 f16 f19 f22 : Bool} {ξ : Nat → Value} {m : Lab}

theorem RI.start (h : PM w0 g pb S m gv tv lv gv tv lv gave took live w) (ξ : Nat → Value) : RI w0 g pb S gv tv lv gave took live d e false false false false false false ξ w m :=
  ⟨h, (fun q => by cases q), (fun q => by cases q)⟩

theorem RI.mk7 (h : RI w0 g pb S gv tv lv gave took live d e f7 f15 false f16 false f22 ξ w m) : ∃ m', RI w0 g pb S gv tv lv gave took live d e true f15 false f16 false f22 (updV ξ 7 (.slice (some ⟨w.heap.size, 0, none⟩) 1 1)) (w.alloc (.cells #[.int .i64 d] 3)) m' := by
  have hp := h.pm
  have ht : Turn (fun k => m k = 5 ∨ w.heap.size ≤ k) w (w.alloc (.cells #[.int .i64 d] 3)) := (Turn.refl _ w).alloc _
  refine ⟨_, hp.turn 5 (by decide) ht (hp.pb_keep 5 (by decide) ht) (.inl ⟨by decide, rfl, rfl⟩) (.inl ⟨by decide, rfl, rfl⟩) (.inl ⟨by decide, rfl, rfl⟩), fun _ => ⟨_, rfl, heap_alloc_new w _, relab_new m (Nat.le_refl _) (by simp)⟩, fun q => (h.n15 q).keep (fun k hk _ => heap_alloc_lt w _ k hk) (fun k hk => relab_old m hk)⟩

theorem RI.mk15 (h : RI w0 g pb S gv tv lv gave took live d e f7 f15 f8 false f19 false ξ w m) : ∃ m', RI w0 g pb S gv tv lv gave took live d e f7 true f8 false f19 false (updV ξ 15 (.slice (some ⟨w.heap.size, 0, none⟩) 1 1)) (w.alloc (.cells #[.int .i64 e] 3)) m' := by
  have hp := h.pm
  have ht : Turn (fun k => m k = 6 ∨ w.heap.size ≤ k) w (w.alloc (.cells #[.int .i64 e] 3)) := (Turn.refl _ w).alloc _
  refine ⟨_, hp.turn 6 (by decide) ht (hp.pb_keep 6 (by decide) ht) (.inl ⟨by decide, rfl, rfl⟩) (.inl ⟨by decide, rfl, rfl⟩) (.inl ⟨by decide, rfl, rfl⟩), fun q => (h.n7 q).keep (fun k hk _ => heap_alloc_lt w _ k hk) (fun k hk => relab_old m hk), fun _ => ⟨_, rfl, heap_alloc_new w _, relab_new m (Nat.le_refl _) (by simp)⟩⟩

theorem one_bytes {l : List Int} (hl : l.length ≤ 1000) (x : Int) : ((icells l).length + [Value.int .i64 x].length) * 8 ≤ 140737488355328 * 1 ∧ (icells l).length + [Value.int .i64 x].length ≤ 1152921504606846976 := by
  have : (icells l).length = l.length := by simp [icells]
  rw [this]
  simp only [List.length_cons, List.length_nil]
  omega

theorem RI.app8 (h : RI w0 g pb S gv tv lv gave took live d e true f15 false f16 false f22 ξ w m) (hl : gave.length ≤ 1000) (ty : TypeId) :
    ∃ v' w', (Builtin.append_ #[24, 24] ty #[gv, ξ 7]).run Try.prog w = .ok v' w' ∧ ∃ m', RI w0 g pb S gv tv lv gave took live d e true f15 true f16 false f22 (updV ξ 8 v') w' m' := by
  have hp := h.pm
  obtain ⟨n, hv, hn, hm⟩ := h.n7 rfl
  obtain ⟨b1, b2⟩ := one_bytes hl d
  obtain ⟨v', w', hr, hs, ht, hw, -⟩ := run_append (P := Try.prog) w 24 24 ty 3 1 8 (.int .i64 0) Try.underlying24 (.inr ⟨_, Try.underlying24⟩) elemInt gv (icells gave) hp.gs.1 (ξ 7) 1 [.int .i64 d] (by rw [hv]; exact Src.one rfl hn) (by simp [Value.oneCell']) b1 b2
  have hs' : SliceAt w' 3 1 v' (icells (gave ++ [d])) := by rw [show icells (gave ++ [d]) = icells gave ++ [Value.int .i64 d] by simp [icells]]; exact hs
  refine ⟨v', w', hr, _, hp.app_g ht hs' hw, (fun q => by cases q), fun q => (h.n15 q).keep (fun k hk hx => ht.block k hk fun hh => ?_) (fun k hk => relab_old m hk)⟩
  have : m k = 2 := hp.gs.2 k hh
  omega

theorem RI.app16 (h : RI w0 g pb S gv tv lv gave took live d e f7 true f8 false f19 false ξ w m) (hl : took.length ≤ 1000) (ty : TypeId) :
    ∃ v' w', (Builtin.append_ #[24, 24] ty #[tv, ξ 15]).run Try.prog w = .ok v' w' ∧ ∃ m', RI w0 g pb S gv tv lv gave took live d e f7 true f8 true f19 false (updV ξ 16 v') w' m' := by
  have hp := h.pm
  obtain ⟨n, hv, hn, hm⟩ := h.n15 rfl
  obtain ⟨b1, b2⟩ := one_bytes hl e
  obtain ⟨v', w', hr, hs, ht, hw, -⟩ := run_append (P := Try.prog) w 24 24 ty 3 1 8 (.int .i64 0) Try.underlying24 (.inr ⟨_, Try.underlying24⟩) elemInt tv (icells took) hp.ts.1 (ξ 15) 1 [.int .i64 e] (by rw [hv]; exact Src.one rfl hn) (by simp [Value.oneCell']) b1 b2
  have hs' : SliceAt w' 3 1 v' (icells (took ++ [e])) := by rw [show icells (took ++ [e]) = icells took ++ [Value.int .i64 e] by simp [icells]]; exact hs
  refine ⟨v', w', hr, _, hp.app_t ht hs' hw, fun q => (h.n7 q).keep (fun k hk hx => ht.block k hk fun hh => ?_) (fun k hk => relab_old m hk), (fun q => by cases q)⟩
  have : m k = 3 := hp.ts.2 k hh
  omega

theorem RI.sto19 (h : RI w0 g pb S gv tv lv gave took live d e true true true true false false ξ w m) : ∃ m', RI w0 g pb S gv tv lv gave took live d e true true true true true false ξ (w.setCell ⟨pb, 1, none⟩ (ξ 8)) m' := by
  obtain ⟨m', h'⟩ := h.pm.sto 1 (ξ 8) rfl
  exact ⟨m', h', (fun q => by cases q), (fun q => by cases q)⟩
theorem RI.sto22 (h : RI w0 g pb S gv tv lv gave took live d e true true true true true false ξ w m) : ∃ m', RI w0 g pb S gv tv lv gave took live d e true true true true true true ξ (w.setCell ⟨pb, 2, none⟩ (ξ 16)) m' := by
  obtain ⟨m', h'⟩ := h.pm.sto 2 (ξ 16) rfl
  exact ⟨m', h', (fun q => by cases q), (fun q => by cases q)⟩

theorem RI.load5 (h : RI w0 g pb S gv tv lv gave took live d e f7 f15 f8 f16 false f22 ξ w m) : w.cell? ⟨pb, 1, none⟩ = some gv := cell_at h.pm.blk rfl
theorem RI.load12 (h : RI w0 g pb S gv tv lv gave took live d e f7 f15 f8 f16 f19 false ξ w m) : w.cell? ⟨pb, 2, none⟩ = some tv := cell_at h.pm.blk rfl
theorem RI.load5' (h : RI w0 g pb S gv tv lv gave took live d e f7 f15 f8 f16 f19 f22 ξ w m) : ∃ v, w.cell? ⟨pb, 1, none⟩ = some v := ⟨_, cell_at h.pm.blk rfl⟩
theorem RI.load12' (h : RI w0 g pb S gv tv lv gave took live d e f7 f15 f8 f16 f19 f22 ξ w m) : ∃ v, w.cell? ⟨pb, 2, none⟩ = some v := ⟨_, cell_at h.pm.blk rfl⟩
theorem RI.old (h : RI w0 g pb S gv tv lv gave took live d e f7 f15 f8 f16 f19 f22 ξ w m) (i : Nat) : w.frozen? ⟨pb, i, none⟩ = false := frozen_at h.pm.blk

/-- The stages of the region. -/
def RS (w0 : World) (g : Ghost) (pb : Nat) (S : St) (gv tv lv : Value) (gave took live : List Int) (d e : Int) (s : Nat) (ξ : Nat → Value) (w : World) : Prop :=
  ∃ m, match s with
    | 0 => RI w0 g pb S gv tv lv gave took live d e false false false false false false ξ w m
    | 1 => RI w0 g pb S gv tv lv gave took live d e true false false false false false ξ w m
    | 2 => RI w0 g pb S gv tv lv gave took live d e false true false false false false ξ w m
    | 3 => RI w0 g pb S gv tv lv gave took live d e true false true false false false ξ w m
    | 4 => RI w0 g pb S gv tv lv gave took live d e true true false false false false ξ w m
    | 5 => RI w0 g pb S gv tv lv gave took live d e true true true false false false ξ w m
    | 6 => RI w0 g pb S gv tv lv gave took live d e true true true true false false ξ w m
    | 7 => RI w0 g pb S gv tv lv gave took live d e true true true true true false ξ w m
    | _ => RI w0 g pb S gv tv lv gave took live d e true true true true true true ξ w m
end
end Go.Sto
