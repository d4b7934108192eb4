/-
  done, walked: a call on both stores.
-/
import Derived.Test.YtahfoejffibahaaQStoRGrow
import Derived.Test.YtahfoejffibahaaQStoRImage
import Derived.Test.YtahfoejffibahaaQStoBack
import Derived.Test.YtahfoejffibahaaQOwnRegionHOn
set_option linter.unusedVariables false

namespace Go.Sto
open Go.Own Go.RowKit Go.Proofs

theorem res_tct {fn : Func} {p u q : Tmp} (h : fn.results = #[.tmp u, .cell p 59, .tmp q]) (tmps : Array Value) (w : World) {g : Nat} {v : Value} (hp : tmps.getD p undef = .pointer (some ⟨g, 0, none⟩)) (hc : w.cell? ⟨g, 0, none⟩ = some v) :
    (results fn tmps).run Try.prog w = .ok (.tuple #[tmps.getD u undef, .agg #[v], tmps.getD q undef]) w := by
  have hp' : tmps[p]?.getD undef = .pointer (some ⟨g, 0, none⟩) := by simpa using hp
  simp [results, h, hp', asAddr]
  go_simp

/-- Two stores: the program's holds S, the reference's T. -/
structure DI (w0 : World) (n : Nat) (K : Nat → Obj → Prop) (g : Ghost) (S : St) (v : Value) (L : List RN) (T : St) (w : World) : Prop where
  si : SI w0 n g S w
  rc : RC w v L T
  tv : ∀ k, v.ownBlock = some k → (g.ρ k).1 = 0
  tl : ∀ x ∈ L, ∀ k, x.val.ownBlock = some k → (g.ρ k).1 = 0
  kp : ∀ k o, K k o → w.heap[k]? = some o ∧ (g.ρ k).1 = 0

section
variable {w0 w w' : World} {n : Nat} {K : Nat → Obj → Prop} {g g' : Ghost} {S S' T T' : St} {v v' : Value} {L L' : List RN}
theorem DI.step (h : DI w0 n K g S v L T w) (r : Repo g' S' w') (s : Step g g' w w') : DI w0 n K g' S' v L T w' :=
  { si := h.si.step r s
    rc := h.rc.turn s.turn (fun k hk e => e (h.tv k hk)) (fun x hx k hk e => e (h.tl x hx k hk))
    tv := fun k hk => by rw [s.tags k (SliceAt.lt h.rc.ref k hk)]; exact h.tv k hk
    tl := fun x hx k hk => by rw [s.tags k (h.rc.blt x hx k hk)]; exact h.tl x hx k hk
    kp := fun k o hk => ⟨(s.turn.block k (heap_lt (h.kp k o hk).1) (fun e => e (h.kp k o hk).2)).trans (h.kp k o hk).1, by rw [s.tags k (heap_lt (h.kp k o hk).1)]; exact (h.kp k o hk).2⟩ }
theorem DI.below (h : DI w0 n K g S v L T w) (hB : Below w.heap.size w w') : DI w0 n K g S v L T w' := { si := h.si.below hB, rc := h.rc.below hB, tv := h.tv, tl := h.tl, kp := fun k o hk => ⟨(hB.block k (heap_lt (h.kp k o hk).1)).trans (h.kp k o hk).1, (h.kp k o hk).2⟩ }
theorem DI.poke (h : DI w0 n K g S v L T w) {rb : Nat} {cur : Array Value} {fr : Nat × Nat} (hb : w.heap[rb]? = some (.cells cur 59 fr)) (h0 : (g.ρ rb).1 = 0) (hold : w0.heap.size ≤ rb ∧ ∀ o, ¬ K rb o) (t : Turn (fun k => k = rb) w w') (ko : KeepsOthers w w') : DI w0 n K g S v L T w' := by
  have hbx := h.rc.box hb
  refine { si := ?_, rc := h.rc.turn t (fun k hk e => hbx.1 (by rw [hk, e])) (fun x hx k hk e => hbx.2 x hx (by rw [hk, e])), tv := h.tv, tl := h.tl, kp := fun k o hk => ⟨(t.block k (heap_lt (h.kp k o hk).1) (fun e => hold.2 o (e ▸ hk))).trans (h.kp k o hk).1, (h.kp k o hk).2⟩ }
  have hz := h.si.old.size
  exact { repo := ⟨h.si.repo.rep.keep t (fun k hk e => by rw [e]; exact h0), h.si.repo.ok⟩, gn := h.si.gn, held := SliceAt.nil _ _ _, marks := SliceAt.nil _ _ _, th := h.si.th, tm := h.si.tm, apart := h.si.apart
          old := ⟨t.os.trans h.si.old.os, t.tape.trans h.si.old.tape, t.output.trans h.si.old.output, Nat.le_trans hz t.size, fun k hk hn => by rw [t.block k (by omega) (by omega)]; exact h.si.old.block k hk hn⟩, tags := h.si.tags }
theorem DI.drewed (h : DI w0 n K g S v L T w') (hh : w.heap = w'.heap) (h1 : w.os = w'.os) (h2 : w.tape = w'.tape) (h3 : w.output = w'.output) : DI w0 n K g S v L T w :=
  h.below ⟨h1, h2, h3, by rw [hh]; exact Nat.le_refl _, fun k _ => by rw [hh]⟩
theorem DI.ref (h : DI w0 n K g S v L T w) (rc : RC w' v' L' T') (hB : Below w.heap.size w w') (hF : FromOr v L w.heap.size v' L') : DI w0 n K g S v' L' T' w' := by
  rcases hF with ⟨rfl, rfl⟩ | q
  · exact { si := h.si.below hB, rc := rc, tv := h.tv, tl := h.tl, kp := (h.below hB).kp }
  · exact { si := h.si.below hB, rc := rc, tv := fun k hk => by rw [h.si.repo.rep.fresh k (q.vl k hk)], tl := fun x hx k hk => by rw [h.si.repo.rep.fresh k (q.lo x hx k hk)], kp := (h.below hB).kp }
end

/-- The boxes of done: the reference's store, the call, and the result. -/
structure BX (g : Ghost) (tb xb rb : Nat) (v : Value) (p : Act4) (w : World) : Prop where
  t : w.heap[tb]? = some (.cells #[v] 59 (0, 0))
  x : w.heap[xb]? = some (.cells #[.int .i64 p.d, .int .i64 p.a, .int .i64 p.b, .int .i64 p.c] 37 (0, 0))
  r : w.heap[rb]? = some (.cells #[.slice none 0 0] 59 (0, 0))
  g0 : (g.ρ tb).1 = 0 ∧ (g.ρ xb).1 = 0 ∧ (g.ρ rb).1 = 0
section
variable {w w' : World} {g g' : Ghost} {v : Value} {p : Act4} {tb xb rb : Nat}
theorem BX.step (h : BX g tb xb rb v p w) (s : Step g g' w w') : BX g' tb xb rb v p w' :=
  { t := (s.turn.block tb (heap_lt h.t) (fun e => e h.g0.1)).trans h.t, x := (s.turn.block xb (heap_lt h.x) (fun e => e h.g0.2.1)).trans h.x, r := (s.turn.block rb (heap_lt h.r) (fun e => e h.g0.2.2)).trans h.r
    g0 := ⟨by rw [s.tags tb (heap_lt h.t)]; exact h.g0.1, by rw [s.tags xb (heap_lt h.x)]; exact h.g0.2.1, by rw [s.tags rb (heap_lt h.r)]; exact h.g0.2.2⟩ }
theorem BX.below (h : BX g tb xb rb v p w) (hB : Below w.heap.size w w') : BX g tb xb rb v p w' :=
  { t := (hB.block tb (heap_lt h.t)).trans h.t, x := (hB.block xb (heap_lt h.x)).trans h.x, r := (hB.block rb (heap_lt h.r)).trans h.r, g0 := h.g0 }
theorem BX.cells (h : BX g tb xb rb v p w) : w.cell? ⟨tb, 0, none⟩ = some v ∧ w.cell? ⟨xb, 0, none⟩ = some (.int .i64 p.d) ∧ w.cell? ⟨xb, 1, none⟩ = some (.int .i64 p.a) ∧ w.cell? ⟨xb, 2, none⟩ = some (.int .i64 p.b) ∧ w.cell? ⟨xb, 3, none⟩ = some (.int .i64 p.c) ∧ w.cell? ⟨rb, 0, none⟩ = some (.slice none 0 0) ∧ w.frozen? ⟨rb, 0, none⟩ = false :=
  ⟨cell_at h.t rfl, cell_at h.x rfl, cell_at h.x rfl, cell_at h.x rfl, cell_at h.x rfl, cell_at h.r rfl, frozen_at h.r⟩
end

def DonePost (w0 : World) (n : Nat) (K : Nat → Obj → Prop) (e : Ending) (w' : World) : Prop :=
  ∃ g S v L, e = .returned (.tuple #[.pointer (some ⟨g.s, 0, none⟩), .agg #[v], .bool true]) ∧ DI w0 n K g S v L S w'

set_option maxRecDepth 100000 in
set_option maxHeartbeats 8000000 in
theorem done_six {w0 w : World} {n : Nat} {K : Nat → Obj → Prop} {g : Ghost} {S : St} {v : Value} {L : List RN} (h : DI w0 n K g S v L S w) {s : Nat} (hs : g.s = s) (p : Act4) (hpw : (Lit.int .i64 p.c).wf = true) (h6 : 0 ≤ p.d ∧ p.d ≤ 5) :
    Calls Try.prog 33 #[.pointer (some ⟨s, 0, none⟩), .agg #[v], .agg #[.int .i64 p.d, .int .i64 p.a, .int .i64 p.b, .int .i64 p.c]] w (DonePost w0 n K) := by
  obtain ⟨va, vn, vc, rfl, -⟩ := SliceAt.form h.rc.ref
  obtain ⟨pd, pa, pb, pc⟩ := p
  dsimp only at hpw h6 ⊢
  have H6 := Lib.hid h6
  have HS := Lib.hid (And.intro hs hpw)
  have HD := Lib.hid h
  clear h hs hpw h6
  go_enter Try.func33, Try.ntmps33
  go_upto_region 1 with fail
  obtain ⟨tb, htb⟩ : ∃ tb, w.heap.size = tb := ⟨_, rfl⟩
  obtain ⟨w1, hw1⟩ : ∃ w1, ((w.alloc (.cells #[.slice va vn vc] 59)).alloc (.cells #[.int .i64 pd, .int .i64 pa, .int .i64 pb, .int .i64 pc] 37)).alloc (.cells #[.slice none 0 0] 59) = w1 := ⟨_, rfl⟩
  have hB1 : Below w.heap.size w w1 := by rw [← hw1]; exact (((Below.refl _ w).alloc (Nat.le_refl _) _).alloc (by simp) _).alloc (by simp; omega) _
  have b1 : w1.heap[tb]? = some (.cells #[.slice va vn vc] 59 (0, 0)) := by rw [← hw1, ← htb]; exact (heap_alloc_lt _ _ _ (by simp; omega)).trans ((heap_alloc_lt _ _ _ (by simp)).trans (heap_alloc_new w _))
  have b2 : w1.heap[tb + 1]? = some (.cells #[.int .i64 pd, .int .i64 pa, .int .i64 pb, .int .i64 pc] 37 (0, 0)) := by
    rw [← hw1, ← htb]; exact (heap_alloc_lt _ _ _ (by simp)).trans (by have := heap_alloc_new (w.alloc (.cells #[.slice va vn vc] 59)) (.cells #[.int .i64 pd, .int .i64 pa, .int .i64 pb, .int .i64 pc] 37); simpa using this)
  have b3 : w1.heap[tb + 1 + 1]? = some (.cells #[.slice none 0 0] 59 (0, 0)) := by
    rw [← hw1, ← htb]; have := heap_alloc_new ((w.alloc (.cells #[.slice va vn vc] 59)).alloc (.cells #[.int .i64 pd, .int .i64 pa, .int .i64 pb, .int .i64 pc] 37)) (.cells #[.slice none 0 0] 59); simpa using this
  have hfr := HD.out.si.repo.rep.fresh
  have B1 : BX g tb (tb + 1) (tb + 1 + 1) (.slice va vn vc) ⟨pd, pa, pb, pc⟩ w1 := { t := b1, x := b2, r := b3, g0 := ⟨by rw [hfr tb (by omega)], by rw [hfr (tb + 1) (by omega)], by rw [hfr (tb + 1 + 1) (by omega)]⟩ }
  have D1 := HD.out.below hB1
  rw [hw1, htb]
  obtain ⟨xb, hxb⟩ : ∃ xb, tb + 1 = xb := ⟨_, rfl⟩
  obtain ⟨rb, hrb⟩ : ∃ rb, xb + 1 = rb := ⟨_, rfl⟩
  rw [hxb, hrb] at B1 ⊢
  have H1 := Lib.hid (And.intro D1 B1)
  have HRB := Lib.hid (show w0.heap.size ≤ rb ∧ ∀ o, ¬ K rb o from ⟨by have := HD.out.si.old.size; omega, fun o hk => by have := heap_lt (HD.out.kp rb o hk).1; omega⟩)
  obtain ⟨k0, k1, k2, k3, k4, -, -⟩ := B1.cells
  dsimp only at k1 k2 k3 k4
  clear hw1 hB1 b1 b2 b3 hfr B1 D1 HD hxb hrb htb
  by_cases hd : pd = 0
  · subst hd
    have HF := Lib.hid (get_full H1.out.1.si.repo HS.out.1 pa)
    go_wp2_with fail
    refine HF.out.mono ?_
    rintro e w2 ⟨rfl, g2, r2, s2⟩
    have D2 := H1.out.1.step r2 s2
    have B2 := H1.out.2.step s2
    have hs2 := s2.s.trans HS.out.1
    obtain ⟨m0, m1, m2, m3, m4, -, -⟩ := B2.cells
    dsimp only at m1 m2 m3 m4
    have H2 := Lib.hid (And.intro D2 (And.intro B2 hs2))
    have HG := Lib.hid (rget_calls H2.out.1.rc H1.out.1.si.repo.ok pa)
    clear k0 k1 k2 k3 k4 D2 B2 hs2 r2 s2
    obtain ⟨A9, hA9⟩ : ∃ A, (get S pa).2.1 = A := ⟨_, rfl⟩
    obtain ⟨E9, hE9⟩ : ∃ A, (get S pa).2.2 = A := ⟨_, rfl⟩
    rw [hA9, hE9]
    have HE := Lib.hid (And.intro hA9 hE9)
    clear hA9 hE9
    go_wp2_with fail
    refine HG.out.mono ?_
    rintro e w3 ⟨v3, L3, rfl, hRC3, hB3, -, hF3⟩
    have D3 := H2.out.1.ref hRC3 hB3 hF3
    have B3 := H2.out.2.1.below hB3
    obtain ⟨ua, un, uc, rfl, -⟩ := SliceAt.form hRC3.ref
    rw [HE.out.1, HE.out.2]
    clear hRC3 hB3 hF3 m0 m1 m2 m3 m4
    go_upto_region 5 with fail
    obtain ⟨ub, hub⟩ : ∃ ub, w3.heap.size = ub := ⟨_, rfl⟩
    obtain ⟨w4, hw4⟩ : ∃ w4, w3.alloc (.cells #[.slice ua un uc] 59) = w4 := ⟨_, rfl⟩
    have hB4 : Below w3.heap.size w3 w4 := by rw [← hw4]; exact (Below.refl _ w3).alloc (Nat.le_refl _) _
    have u4 : w4.cell? ⟨ub, 0, none⟩ = some (.slice ua un uc) := by rw [← hw4, ← hub]; exact cell_at (heap_alloc_new w3 _) rfl
    rw [hw4, hub]
    have D4 := D3.below hB4
    have B4 := B3.below hB4
    clear hw4 hub hB4 D3 B3
    obtain ⟨q0, -, -, -, -, r0, r1⟩ := B4.cells
    have t5 : Turn (fun k => k = rb) w4 (w4.setCell ⟨rb, 0, none⟩ (.slice ua un uc)) := (Turn.refl (fun k => k = rb) w4).setCell (p := ⟨rb, 0, none⟩) (fun _ => rfl) _
    have D5 := D4.poke B4.r B4.g0.2.2 HRB.out t5 (KeepsOthers.setCell _ _ _)
    have HFIN := Lib.hid D5
    have c5 : (w4.setCell ⟨rb, 0, none⟩ (.slice ua un uc)).cell? ⟨rb, 0, none⟩ = some (.slice ua un uc) := World.cell?_setCell_same' _ _ _ (by rw [r0]; rfl)
    have HC5 := Lib.hid c5
    clear D4 B4 t5 D5 c5
    refine wp_region_planG (aF := ?aFd0) [11] [[], [11]] 1 [(0, 0, 0), (1, 0, 0), (2, 0, 0), (2, 1, 1), (3, 0, 0), (3, 1, 1), (4, 0, 0), (5, 0, 0), (6, 0, 0), (6, 1, 1), (7, 0, 0), (7, 1, 1), (8, 0, 0), (8, 1, 1), (9, 0, 0), (9, 1, 1), (10, 0, 0), (11, 0, 1), (12, 1, 1)]
      [w4.drew, w4.drew.setCell ⟨rb, 0, none⟩ (.slice ua un uc)]
      [.pointer (some ⟨s, 0, none⟩), .agg #[.slice ua un uc], .int .i64 A9, .int .i64 A9, .bool true, .bool true, .int .i64 E9, .int .i64 E9, .bool true, .bool true, .pointer (some ⟨s, 0, none⟩), undef, .bool true]
      (by kernel_rfl) (by kernel_rfl) ?hFd0 rfl rfl rfl ?hobd0 ?hendd0
    case hFd0 => simp only [putAll, Act.put]; go_simp; rfl
    case hobd0 =>
      repeat' (first
        | exact oblsG_nil
        | (refine oblsG_cons rfl rfl rfl ?_ ?_)
        | exact Runs.value rfl rfl rfl
        | exact Runs.guarded rfl rfl rfl
        | (apply Runs.skip rfl rfl; (focus (go_simp; try exact rfl)); exact rfl)
        | (apply Runs.value rfl; (focus (go_simp; try exact rfl)); exact rfl)
        | (apply Runs.guarded rfl; (focus (go_simp; try exact rfl)); exact rfl))
    case hendd0 =>
      go_wp2_with fail
      (try simp only [Exit.inBlock, Exit.then]); refine bodyPost_ret (res_tct (v := .slice ua un uc) rfl _ _ rfl HC5.out) rfl ?_
      have hs := H2.out.2.2
      subst hs
      exact ⟨g2, _, _, _, rfl, HFIN.out.drewed rfl rfl rfl rfl⟩
  by_cases hd : pd = 1
  · subst hd
    have HF := Lib.hid (put_calls H1.out.1.si.repo HS.out.1 pa)
    go_wp2_with fail
    refine HF.out.mono ?_
    rintro e w2 ⟨rfl, g2, r2, s2⟩
    have D2 := H1.out.1.step r2 s2
    have B2 := H1.out.2.step s2
    have hs2 := s2.s.trans HS.out.1
    obtain ⟨m0, m1, m2, m3, m4, -, -⟩ := B2.cells
    dsimp only at m1 m2 m3 m4
    have H2 := Lib.hid (And.intro D2 (And.intro B2 hs2))
    have HG := Lib.hid (rput_calls H2.out.1.rc H1.out.1.si.repo.ok pa)
    clear k0 k1 k2 k3 k4 D2 B2 hs2 r2 s2
    obtain ⟨E9, hE9⟩ : ∃ A, (put S pa).2 = A := ⟨_, rfl⟩
    rw [hE9]
    have HE := Lib.hid (hE9)
    clear hE9
    go_wp2_with fail
    refine HG.out.mono ?_
    rintro e w3 ⟨v3, L3, rfl, hRC3, hB3, hF3⟩
    have D3 := H2.out.1.ref hRC3 hB3 hF3
    have B3 := H2.out.2.1.below hB3
    obtain ⟨ua, un, uc, rfl, -⟩ := SliceAt.form hRC3.ref
    rw [HE.out]
    clear hRC3 hB3 hF3 m0 m1 m2 m3 m4
    go_upto_region 9 with fail
    obtain ⟨ub, hub⟩ : ∃ ub, w3.heap.size = ub := ⟨_, rfl⟩
    obtain ⟨w4, hw4⟩ : ∃ w4, w3.alloc (.cells #[.slice ua un uc] 59) = w4 := ⟨_, rfl⟩
    have hB4 : Below w3.heap.size w3 w4 := by rw [← hw4]; exact (Below.refl _ w3).alloc (Nat.le_refl _) _
    have u4 : w4.cell? ⟨ub, 0, none⟩ = some (.slice ua un uc) := by rw [← hw4, ← hub]; exact cell_at (heap_alloc_new w3 _) rfl
    rw [hw4, hub]
    have D4 := D3.below hB4
    have B4 := B3.below hB4
    clear hw4 hub hB4 D3 B3
    obtain ⟨q0, -, -, -, -, r0, r1⟩ := B4.cells
    have t5 : Turn (fun k => k = rb) w4 (w4.setCell ⟨rb, 0, none⟩ (.slice ua un uc)) := (Turn.refl (fun k => k = rb) w4).setCell (p := ⟨rb, 0, none⟩) (fun _ => rfl) _
    have D5 := D4.poke B4.r B4.g0.2.2 HRB.out t5 (KeepsOthers.setCell _ _ _)
    have HFIN := Lib.hid D5
    have c5 : (w4.setCell ⟨rb, 0, none⟩ (.slice ua un uc)).cell? ⟨rb, 0, none⟩ = some (.slice ua un uc) := World.cell?_setCell_same' _ _ _ (by rw [r0]; rfl)
    have HC5 := Lib.hid c5
    clear D4 B4 t5 D5 c5
    refine wp_region_planG (aF := ?aFd1) [6] [[], [6]] 1 [(0, 0, 0), (1, 0, 0), (2, 0, 0), (2, 1, 1), (3, 0, 0), (3, 1, 1), (4, 0, 0), (4, 1, 1), (5, 0, 0), (6, 0, 1), (7, 1, 1)]
      [w4.drew, w4.drew.setCell ⟨rb, 0, none⟩ (.slice ua un uc)]
      [.pointer (some ⟨s, 0, none⟩), .agg #[.slice ua un uc], .int .i64 E9, .int .i64 E9, .bool true, .pointer (some ⟨s, 0, none⟩), undef, .bool true]
      (by kernel_rfl) (by kernel_rfl) ?hFd1 rfl rfl rfl ?hobd1 ?hendd1
    case hFd1 => simp only [putAll, Act.put]; go_simp; rfl
    case hobd1 =>
      repeat' (first
        | exact oblsG_nil
        | (refine oblsG_cons rfl rfl rfl ?_ ?_)
        | exact Runs.value rfl rfl rfl
        | exact Runs.guarded rfl rfl rfl
        | (apply Runs.skip rfl rfl; (focus (go_simp; try exact rfl)); exact rfl)
        | (apply Runs.value rfl; (focus (go_simp; try exact rfl)); exact rfl)
        | (apply Runs.guarded rfl; (focus (go_simp; try exact rfl)); exact rfl))
    case hendd1 =>
      go_wp2_with fail
      (try simp only [Exit.inBlock, Exit.then]); refine bodyPost_ret (res_tct (v := .slice ua un uc) rfl _ _ rfl HC5.out) rfl ?_
      have hs := H2.out.2.2
      subst hs
      exact ⟨g2, _, _, _, rfl, HFIN.out.drewed rfl rfl rfl rfl⟩
  by_cases hd : pd = 2
  · subst hd
    have HF := Lib.hid (grow_calls H1.out.1.si.repo HS.out.1 pa pb)
    go_wp2_with fail
    refine HF.out.mono ?_
    rintro e w2 ⟨rfl, g2, r2, s2⟩
    have D2 := H1.out.1.step r2 s2
    have B2 := H1.out.2.step s2
    have hs2 := s2.s.trans HS.out.1
    obtain ⟨m0, m1, m2, m3, m4, -, -⟩ := B2.cells
    dsimp only at m1 m2 m3 m4
    have H2 := Lib.hid (And.intro D2 (And.intro B2 hs2))
    have HG := Lib.hid (rgrow_calls H2.out.1.rc H1.out.1.si.repo.ok pa pb)
    clear k0 k1 k2 k3 k4 D2 B2 hs2 r2 s2
    obtain ⟨A9, hA9⟩ : ∃ A, (grow S pa pb).2.1 = A := ⟨_, rfl⟩
    obtain ⟨E9, hE9⟩ : ∃ A, (grow S pa pb).2.2 = A := ⟨_, rfl⟩
    rw [hA9, hE9]
    have HE := Lib.hid (And.intro hA9 hE9)
    clear hA9 hE9
    go_wp2_with fail
    refine HG.out.mono ?_
    rintro e w3 ⟨v3, L3, rfl, hRC3, hB3, hF3⟩
    have D3 := H2.out.1.ref hRC3 hB3 hF3
    have B3 := H2.out.2.1.below hB3
    obtain ⟨ua, un, uc, rfl, -⟩ := SliceAt.form hRC3.ref
    rw [HE.out.1, HE.out.2]
    clear hRC3 hB3 hF3 m0 m1 m2 m3 m4
    go_upto_region 13 with fail
    obtain ⟨ub, hub⟩ : ∃ ub, w3.heap.size = ub := ⟨_, rfl⟩
    obtain ⟨w4, hw4⟩ : ∃ w4, w3.alloc (.cells #[.slice ua un uc] 59) = w4 := ⟨_, rfl⟩
    have hB4 : Below w3.heap.size w3 w4 := by rw [← hw4]; exact (Below.refl _ w3).alloc (Nat.le_refl _) _
    have u4 : w4.cell? ⟨ub, 0, none⟩ = some (.slice ua un uc) := by rw [← hw4, ← hub]; exact cell_at (heap_alloc_new w3 _) rfl
    rw [hw4, hub]
    have D4 := D3.below hB4
    have B4 := B3.below hB4
    clear hw4 hub hB4 D3 B3
    obtain ⟨q0, -, -, -, -, r0, r1⟩ := B4.cells
    have t5 : Turn (fun k => k = rb) w4 (w4.setCell ⟨rb, 0, none⟩ (.slice ua un uc)) := (Turn.refl (fun k => k = rb) w4).setCell (p := ⟨rb, 0, none⟩) (fun _ => rfl) _
    have D5 := D4.poke B4.r B4.g0.2.2 HRB.out t5 (KeepsOthers.setCell _ _ _)
    have HFIN := Lib.hid D5
    have c5 : (w4.setCell ⟨rb, 0, none⟩ (.slice ua un uc)).cell? ⟨rb, 0, none⟩ = some (.slice ua un uc) := World.cell?_setCell_same' _ _ _ (by rw [r0]; rfl)
    have HC5 := Lib.hid c5
    clear D4 B4 t5 D5 c5
    refine wp_region_planG (aF := ?aFd2) [11] [[], [11]] 1 [(0, 0, 0), (1, 0, 0), (2, 0, 0), (2, 1, 1), (3, 0, 0), (3, 1, 1), (4, 0, 0), (5, 0, 0), (6, 0, 0), (6, 1, 1), (7, 0, 0), (7, 1, 1), (8, 0, 0), (8, 1, 1), (9, 0, 0), (9, 1, 1), (10, 0, 0), (11, 0, 1), (12, 1, 1)]
      [w4.drew, w4.drew.setCell ⟨rb, 0, none⟩ (.slice ua un uc)]
      [.pointer (some ⟨s, 0, none⟩), .agg #[.slice ua un uc], .int .i64 A9, .int .i64 A9, .bool true, .bool true, .int .i64 E9, .int .i64 E9, .bool true, .bool true, .pointer (some ⟨s, 0, none⟩), undef, .bool true]
      (by kernel_rfl) (by kernel_rfl) ?hFd2 rfl rfl rfl ?hobd2 ?hendd2
    case hFd2 => simp only [putAll, Act.put]; go_simp; rfl
    case hobd2 =>
      repeat' (first
        | exact oblsG_nil
        | (refine oblsG_cons rfl rfl rfl ?_ ?_)
        | exact Runs.value rfl rfl rfl
        | exact Runs.guarded rfl rfl rfl
        | (apply Runs.skip rfl rfl; (focus (go_simp; try exact rfl)); exact rfl)
        | (apply Runs.value rfl; (focus (go_simp; try exact rfl)); exact rfl)
        | (apply Runs.guarded rfl; (focus (go_simp; try exact rfl)); exact rfl))
    case hendd2 =>
      go_wp2_with fail
      (try simp only [Exit.inBlock, Exit.then]); refine bodyPost_ret (res_tct (v := .slice ua un uc) rfl _ _ rfl HC5.out) rfl ?_
      have hs := H2.out.2.2
      subst hs
      exact ⟨g2, _, _, _, rfl, HFIN.out.drewed rfl rfl rfl rfl⟩
  by_cases hd : pd = 3
  · subst hd
    have HF := Lib.hid (write_calls H1.out.1.si.repo HS.out.1 pa pb pc HS.out.2)
    go_wp2_with fail
    refine HF.out.mono ?_
    rintro e w2 ⟨rfl, g2, r2, s2⟩
    have D2 := H1.out.1.step r2 s2
    have B2 := H1.out.2.step s2
    have hs2 := s2.s.trans HS.out.1
    obtain ⟨m0, m1, m2, m3, m4, -, -⟩ := B2.cells
    dsimp only at m1 m2 m3 m4
    have H2 := Lib.hid (And.intro D2 (And.intro B2 hs2))
    have HG := Lib.hid (rwrite_calls H2.out.1.rc H1.out.1.si.repo.ok pa pb pc)
    clear k0 k1 k2 k3 k4 D2 B2 hs2 r2 s2
    obtain ⟨E9, hE9⟩ : ∃ A, (write S pa pb pc).2 = A := ⟨_, rfl⟩
    rw [hE9]
    have HE := Lib.hid (hE9)
    clear hE9
    go_wp2_with fail
    refine HG.out.mono ?_
    rintro e w3 ⟨v3, L3, rfl, hRC3, hB3, hF3⟩
    have D3 := H2.out.1.ref hRC3 hB3 hF3
    have B3 := H2.out.2.1.below hB3
    obtain ⟨ua, un, uc, rfl, -⟩ := SliceAt.form hRC3.ref
    rw [HE.out]
    clear hRC3 hB3 hF3 m0 m1 m2 m3 m4
    go_upto_region 17 with fail
    obtain ⟨ub, hub⟩ : ∃ ub, w3.heap.size = ub := ⟨_, rfl⟩
    obtain ⟨w4, hw4⟩ : ∃ w4, w3.alloc (.cells #[.slice ua un uc] 59) = w4 := ⟨_, rfl⟩
    have hB4 : Below w3.heap.size w3 w4 := by rw [← hw4]; exact (Below.refl _ w3).alloc (Nat.le_refl _) _
    have u4 : w4.cell? ⟨ub, 0, none⟩ = some (.slice ua un uc) := by rw [← hw4, ← hub]; exact cell_at (heap_alloc_new w3 _) rfl
    rw [hw4, hub]
    have D4 := D3.below hB4
    have B4 := B3.below hB4
    clear hw4 hub hB4 D3 B3
    obtain ⟨q0, -, -, -, -, r0, r1⟩ := B4.cells
    have t5 : Turn (fun k => k = rb) w4 (w4.setCell ⟨rb, 0, none⟩ (.slice ua un uc)) := (Turn.refl (fun k => k = rb) w4).setCell (p := ⟨rb, 0, none⟩) (fun _ => rfl) _
    have D5 := D4.poke B4.r B4.g0.2.2 HRB.out t5 (KeepsOthers.setCell _ _ _)
    have HFIN := Lib.hid D5
    have c5 : (w4.setCell ⟨rb, 0, none⟩ (.slice ua un uc)).cell? ⟨rb, 0, none⟩ = some (.slice ua un uc) := World.cell?_setCell_same' _ _ _ (by rw [r0]; rfl)
    have HC5 := Lib.hid c5
    clear D4 B4 t5 D5 c5
    refine wp_region_planG (aF := ?aFd3) [6] [[], [6]] 1 [(0, 0, 0), (1, 0, 0), (2, 0, 0), (2, 1, 1), (3, 0, 0), (3, 1, 1), (4, 0, 0), (4, 1, 1), (5, 0, 0), (6, 0, 1), (7, 1, 1)]
      [w4.drew, w4.drew.setCell ⟨rb, 0, none⟩ (.slice ua un uc)]
      [.pointer (some ⟨s, 0, none⟩), .agg #[.slice ua un uc], .int .i64 E9, .int .i64 E9, .bool true, .pointer (some ⟨s, 0, none⟩), undef, .bool true]
      (by kernel_rfl) (by kernel_rfl) ?hFd3 rfl rfl rfl ?hobd3 ?hendd3
    case hFd3 => simp only [putAll, Act.put]; go_simp; rfl
    case hobd3 =>
      repeat' (first
        | exact oblsG_nil
        | (refine oblsG_cons rfl rfl rfl ?_ ?_)
        | exact Runs.value rfl rfl rfl
        | exact Runs.guarded rfl rfl rfl
        | (apply Runs.skip rfl rfl; (focus (go_simp; try exact rfl)); exact rfl)
        | (apply Runs.value rfl; (focus (go_simp; try exact rfl)); exact rfl)
        | (apply Runs.guarded rfl; (focus (go_simp; try exact rfl)); exact rfl))
    case hendd3 =>
      go_wp2_with fail
      (try simp only [Exit.inBlock, Exit.then]); refine bodyPost_ret (res_tct (v := .slice ua un uc) rfl _ _ rfl HC5.out) rfl ?_
      have hs := H2.out.2.2
      subst hs
      exact ⟨g2, _, _, _, rfl, HFIN.out.drewed rfl rfl rfl rfl⟩
  by_cases hd : pd = 4
  · subst hd
    have HF := Lib.hid (read_calls H1.out.1.si.repo HS.out.1 pa pb)
    go_wp2_with fail
    refine HF.out.mono ?_
    rintro e w2 ⟨rfl, b2⟩
    have D2 := H1.out.1.below b2
    have B2 := H1.out.2.below b2
    have hs2 := HS.out.1
    obtain ⟨m0, m1, m2, m3, m4, -, -⟩ := B2.cells
    dsimp only at m1 m2 m3 m4
    have H2 := Lib.hid (And.intro D2 (And.intro B2 hs2))
    have HG := Lib.hid (rread_calls H2.out.1.rc H1.out.1.si.repo.ok pa pb)
    clear k0 k1 k2 k3 k4 D2 B2 hs2 b2
    obtain ⟨A9, hA9⟩ : ∃ A, (read S pa pb).1 = A := ⟨_, rfl⟩
    obtain ⟨E9, hE9⟩ : ∃ A, (read S pa pb).2 = A := ⟨_, rfl⟩
    rw [hA9, hE9]
    have HE := Lib.hid (And.intro hA9 hE9)
    clear hA9 hE9
    go_wp2_with fail
    refine HG.out.mono ?_
    rintro e w4 ⟨rfl, hB3⟩
    have D4 := H2.out.1.below hB3
    have B4 := H2.out.2.1.below hB3
    rw [HE.out.1, HE.out.2]
    clear hB3 m0 m1 m2 m3 m4
    go_upto_region 21 with fail
    obtain ⟨q0, -, -, -, -, r0, r1⟩ := B4.cells
    have t5 : Turn (fun k => k = rb) w4 (w4.setCell ⟨rb, 0, none⟩ (.slice va vn vc)) := (Turn.refl (fun k => k = rb) w4).setCell (p := ⟨rb, 0, none⟩) (fun _ => rfl) _
    have D5 := D4.poke B4.r B4.g0.2.2 HRB.out t5 (KeepsOthers.setCell _ _ _)
    have HFIN := Lib.hid D5
    have c5 : (w4.setCell ⟨rb, 0, none⟩ (.slice va vn vc)).cell? ⟨rb, 0, none⟩ = some (.slice va vn vc) := World.cell?_setCell_same' _ _ _ (by rw [r0]; rfl)
    have HC5 := Lib.hid c5
    clear D4 B4 t5 D5 c5
    refine wp_region_planG (aF := ?aFd4) [11] [[], [11]] 1 [(0, 0, 0), (1, 0, 0), (2, 0, 0), (2, 1, 1), (3, 0, 0), (3, 1, 1), (4, 0, 0), (5, 0, 0), (6, 0, 0), (6, 1, 1), (7, 0, 0), (7, 1, 1), (8, 0, 0), (8, 1, 1), (9, 0, 0), (9, 1, 1), (10, 0, 0), (11, 0, 1), (12, 1, 1)]
      [w4.drew, w4.drew.setCell ⟨rb, 0, none⟩ (.slice va vn vc)]
      [.pointer (some ⟨s, 0, none⟩), .agg #[.slice va vn vc], .int .i64 A9, .int .i64 A9, .bool true, .bool true, .int .i64 E9, .int .i64 E9, .bool true, .bool true, .pointer (some ⟨s, 0, none⟩), undef, .bool true]
      (by kernel_rfl) (by kernel_rfl) ?hFd4 rfl rfl rfl ?hobd4 ?hendd4
    case hFd4 => simp only [putAll, Act.put]; go_simp; rfl
    case hobd4 =>
      repeat' (first
        | exact oblsG_nil
        | (refine oblsG_cons rfl rfl rfl ?_ ?_)
        | exact Runs.value rfl rfl rfl
        | exact Runs.guarded rfl rfl rfl
        | (apply Runs.skip rfl rfl; (focus (go_simp; try exact rfl)); exact rfl)
        | (apply Runs.value rfl; (focus (go_simp; try exact rfl)); exact rfl)
        | (apply Runs.guarded rfl; (focus (go_simp; try exact rfl)); exact rfl))
    case hendd4 =>
      go_wp2_with fail
      (try simp only [Exit.inBlock, Exit.then]); refine bodyPost_ret (res_tct (v := .slice va vn vc) rfl _ _ rfl HC5.out) rfl ?_
      have hs := H2.out.2.2
      subst hs
      exact ⟨g, _, _, _, rfl, HFIN.out.drewed rfl rfl rfl rfl⟩
  by_cases hd : pd = 5
  · subst hd
    have HF := Lib.hid (size_calls H1.out.1.si.repo HS.out.1 pa)
    go_wp2_with fail
    refine HF.out.mono ?_
    rintro e w2 ⟨rfl, b2⟩
    have D2 := H1.out.1.below b2
    have B2 := H1.out.2.below b2
    have hs2 := HS.out.1
    obtain ⟨m0, m1, m2, m3, m4, -, -⟩ := B2.cells
    dsimp only at m1 m2 m3 m4
    have H2 := Lib.hid (And.intro D2 (And.intro B2 hs2))
    have HG := Lib.hid (rsize_calls H2.out.1.rc H1.out.1.si.repo.ok pa)
    clear k0 k1 k2 k3 k4 D2 B2 hs2 b2
    obtain ⟨A9, hA9⟩ : ∃ A, (size S pa).1 = A := ⟨_, rfl⟩
    obtain ⟨E9, hE9⟩ : ∃ A, (size S pa).2 = A := ⟨_, rfl⟩
    rw [hA9, hE9]
    have HE := Lib.hid (And.intro hA9 hE9)
    clear hA9 hE9
    go_wp2_with fail
    refine HG.out.mono ?_
    rintro e w4 ⟨rfl, hB3⟩
    have D4 := H2.out.1.below hB3
    have B4 := H2.out.2.1.below hB3
    rw [HE.out.1, HE.out.2]
    clear hB3 m0 m1 m2 m3 m4
    go_upto_region 25 with fail
    obtain ⟨q0, -, -, -, -, r0, r1⟩ := B4.cells
    have t5 : Turn (fun k => k = rb) w4 (w4.setCell ⟨rb, 0, none⟩ (.slice va vn vc)) := (Turn.refl (fun k => k = rb) w4).setCell (p := ⟨rb, 0, none⟩) (fun _ => rfl) _
    have D5 := D4.poke B4.r B4.g0.2.2 HRB.out t5 (KeepsOthers.setCell _ _ _)
    have HFIN := Lib.hid D5
    have c5 : (w4.setCell ⟨rb, 0, none⟩ (.slice va vn vc)).cell? ⟨rb, 0, none⟩ = some (.slice va vn vc) := World.cell?_setCell_same' _ _ _ (by rw [r0]; rfl)
    have HC5 := Lib.hid c5
    clear D4 B4 t5 D5 c5
    refine wp_region_planG (aF := ?aFd5) [11] [[], [11]] 1 [(0, 0, 0), (1, 0, 0), (2, 0, 0), (2, 1, 1), (3, 0, 0), (3, 1, 1), (4, 0, 0), (5, 0, 0), (6, 0, 0), (6, 1, 1), (7, 0, 0), (7, 1, 1), (8, 0, 0), (8, 1, 1), (9, 0, 0), (9, 1, 1), (10, 0, 0), (11, 0, 1), (12, 1, 1)]
      [w4.drew, w4.drew.setCell ⟨rb, 0, none⟩ (.slice va vn vc)]
      [.pointer (some ⟨s, 0, none⟩), .agg #[.slice va vn vc], .int .i64 A9, .int .i64 A9, .bool true, .bool true, .int .i64 E9, .int .i64 E9, .bool true, .bool true, .pointer (some ⟨s, 0, none⟩), undef, .bool true]
      (by kernel_rfl) (by kernel_rfl) ?hFd5 rfl rfl rfl ?hobd5 ?hendd5
    case hFd5 => simp only [putAll, Act.put]; go_simp; rfl
    case hobd5 =>
      repeat' (first
        | exact oblsG_nil
        | (refine oblsG_cons rfl rfl rfl ?_ ?_)
        | exact Runs.value rfl rfl rfl
        | exact Runs.guarded rfl rfl rfl
        | (apply Runs.skip rfl rfl; (focus (go_simp; try exact rfl)); exact rfl)
        | (apply Runs.value rfl; (focus (go_simp; try exact rfl)); exact rfl)
        | (apply Runs.guarded rfl; (focus (go_simp; try exact rfl)); exact rfl))
    case hendd5 =>
      go_wp2_with fail
      (try simp only [Exit.inBlock, Exit.then]); refine bodyPost_ret (res_tct (v := .slice va vn vc) rfl _ _ rfl HC5.out) rfl ?_
      have hs := H2.out.2.2
      subst hs
      exact ⟨g, _, _, _, rfl, HFIN.out.drewed rfl rfl rfl rfl⟩
  exact absurd H6.out (by omega)
end Go.Sto
