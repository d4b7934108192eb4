/-
  done, walked: the store's bytes, read again.
-/
import Derived.Test.YtahfoejffibahaaQStoDone
set_option linter.unusedVariables false

namespace Go.Sto
open Go.Own Go.RowKit Go.Proofs

/-- What holds at each stage of the last region. -/
structure D30 (W : World) (l : List Int) (rb : Nat) (v : Value) (s : Nat) (ξ : Nat → Value) (w : World) : Prop where
  b : s ≤ 2 → Below W.heap.size W w
  e4 : 1 ≤ s → ∃ a c, ξ 4 = .slice a l.length c ∧ (s ≤ 2 → BytesA w a l)
  e5 : 2 ≤ s → ξ 5 = .bool true
  fin : s = 3 → ∃ w1, Below W.heap.size W w1 ∧ w = w1.setCell ⟨rb, 0, none⟩ v

set_option maxRecDepth 100000 in
set_option maxHeartbeats 8000000 in
theorem done_other {w0 w : World} {n : Nat} {K : Nat → Obj → Prop} {g : Ghost} {S : St} {v : Value} {L : List RN} (h : DI w0 n K g S v L S w) {s : Nat} (hs : g.s = s) (p : Act4) (hpw : (Lit.int .i64 p.c).wf = true) (h6 : ¬ (0 ≤ p.d ∧ p.d ≤ 5)) :
    Calls Try.prog 33 #[.pointer (some ⟨s, 0, none⟩), .agg #[v], .agg #[.int .i64 p.d, .int .i64 p.a, .int .i64 p.b, .int .i64 p.c]] w (DonePost w0 n K) := by
  obtain ⟨va, vn, vc, rfl, -⟩ := SliceAt.form h.rc.ref
  obtain ⟨pd, pa, pb, pc⟩ := p
  dsimp only at hpw h6 ⊢
  have H6 := Lib.hid h6
  have HS := Lib.hid (And.intro hs hpw)
  have HD := Lib.hid h
  clear h hs hpw h6
  go_enter Try.func33, Try.ntmps33
  go_upto_region 1 with fail
  obtain ⟨tb, htb⟩ : ∃ tb, w.heap.size = tb := ⟨_, rfl⟩
  obtain ⟨w1, hw1⟩ : ∃ w1, ((w.alloc (.cells #[.slice va vn vc] 59)).alloc (.cells #[.int .i64 pd, .int .i64 pa, .int .i64 pb, .int .i64 pc] 37)).alloc (.cells #[.slice none 0 0] 59) = w1 := ⟨_, rfl⟩
  have hB1 : Below w.heap.size w w1 := by rw [← hw1]; exact (((Below.refl _ w).alloc (Nat.le_refl _) _).alloc (by simp) _).alloc (by simp; omega) _
  have b1 : w1.heap[tb]? = some (.cells #[.slice va vn vc] 59 (0, 0)) := by rw [← hw1, ← htb]; exact (heap_alloc_lt _ _ _ (by simp; omega)).trans ((heap_alloc_lt _ _ _ (by simp)).trans (heap_alloc_new w _))
  have b2 : w1.heap[tb + 1]? = some (.cells #[.int .i64 pd, .int .i64 pa, .int .i64 pb, .int .i64 pc] 37 (0, 0)) := by
    rw [← hw1, ← htb]; exact (heap_alloc_lt _ _ _ (by simp)).trans (by have := heap_alloc_new (w.alloc (.cells #[.slice va vn vc] 59)) (.cells #[.int .i64 pd, .int .i64 pa, .int .i64 pb, .int .i64 pc] 37); simpa using this)
  have b3 : w1.heap[tb + 1 + 1]? = some (.cells #[.slice none 0 0] 59 (0, 0)) := by
    rw [← hw1, ← htb]; have := heap_alloc_new ((w.alloc (.cells #[.slice va vn vc] 59)).alloc (.cells #[.int .i64 pd, .int .i64 pa, .int .i64 pb, .int .i64 pc] 37)) (.cells #[.slice none 0 0] 59); simpa using this
  have hfr := HD.out.si.repo.rep.fresh
  have B1 : BX g tb (tb + 1) (tb + 1 + 1) (.slice va vn vc) ⟨pd, pa, pb, pc⟩ w1 := { t := b1, x := b2, r := b3, g0 := ⟨by rw [hfr tb (by omega)], by rw [hfr (tb + 1) (by omega)], by rw [hfr (tb + 1 + 1) (by omega)]⟩ }
  have D1 := HD.out.below hB1
  rw [hw1, htb]
  obtain ⟨xb, hxb⟩ : ∃ xb, tb + 1 = xb := ⟨_, rfl⟩
  obtain ⟨rb, hrb⟩ : ∃ rb, xb + 1 = rb := ⟨_, rfl⟩
  rw [hxb, hrb] at B1 ⊢
  have H1 := Lib.hid (And.intro D1 B1)
  have HRB := Lib.hid (show w0.heap.size ≤ rb ∧ ∀ o, ¬ K rb o from ⟨by have := HD.out.si.old.size; omega, fun o hk => by have := heap_lt (HD.out.kp rb o hk).1; omega⟩)
  obtain ⟨k0, k1, k2, k3, k4, -, -⟩ := B1.cells
  dsimp only at k1 k2 k3 k4
  clear hw1 hB1 b1 b2 b3 hfr B1 D1 HD hxb hrb htb
  have g0 : (pd == 0) = false := beq_eq_false_iff_ne.2 (by have := H6.out; omega)
  have g1 : (pd == 1) = false := beq_eq_false_iff_ne.2 (by have := H6.out; omega)
  have g2 : (pd == 2) = false := beq_eq_false_iff_ne.2 (by have := H6.out; omega)
  have g3 : (pd == 3) = false := beq_eq_false_iff_ne.2 (by have := H6.out; omega)
  have g4 : (pd == 4) = false := beq_eq_false_iff_ne.2 (by have := H6.out; omega)
  have g5 : (pd == 5) = false := beq_eq_false_iff_ne.2 (by have := H6.out; omega)
  have HIM := Lib.hid (image_calls H1.out.1.si.repo HS.out.1)
  go_wp2_with fail
  refine HIM.out.mono ?_
  rintro e w2 ⟨v2, rfl, s2, b2, -⟩
  rw [H1.out.1.si.gn] at s2
  have D2 := H1.out.1.below b2
  have B2 := H1.out.2.below b2
  have hno := image_length D2.si.repo.ok
  rw [D2.si.gn] at hno
  obtain ⟨l, hl⟩ : ∃ l, image n S = l := ⟨_, rfl⟩
  have hby := image_bytes n S
  have hri : restore (image n S) = .ok ((n : Int), S) := by
    have := restore_image D2.si.repo.ok
    rwa [D2.si.gn] at this
  rw [hl] at s2 hno hby hri
  obtain ⟨bb, ab, cb, rfl, hcb, hBC, hBA⟩ := ublk_form s2 hno.1
  have hrs := restore_calls hBC hcb hno.2 hby
  have H2 := Lib.hid (And.intro D2 (And.intro B2 (And.intro hBA (And.intro hri (And.intro hno hl)))))
  have HRS := Lib.hid hrs
  clear hno hby hri s2 b2 D2 B2 hBC hBA hcb hl hrs k0 k1 k2 k3 k4
  go_wp2_with fail
  refine HRS.out.mono ?_
  rintro e3 w3 (⟨er, hr, -⟩ | ⟨n', S', t, hr, rfl, ht1, rt, hB3, htag3, -⟩)
  · rw [H2.out.2.2.2.1] at hr; cases hr
  · rw [H2.out.2.2.2.1] at hr
    simp only [Except.ok.injEq, Prod.mk.injEq] at hr
    obtain ⟨hn', rfl⟩ := hr
    obtain ⟨s', hs'⟩ : ∃ s', t.s = s' := ⟨_, rfl⟩
    rw [hs']
    have D2 := H2.out.1
    have D3 : DI w0 n K t S (.slice va vn vc) L S w3 :=
      { si := { repo := rt, gn := by omega, held := SliceAt.nil _ _ _, marks := SliceAt.nil _ _ _, th := fun b hb => by simp [Value.ownBlock] at hb, tm := fun b hb => by simp [Value.ownBlock] at hb, apart := fun b hb => by simp [Value.ownBlock] at hb,
                old := (D2.below hB3).si.old, tags := fun k hk => by rw [htag3 k (by have := D2.si.old.size; omega)] }
        rc := D2.rc.below hB3, tv := fun k hk => by rw [htag3 k (SliceAt.lt D2.rc.ref k hk)], tl := fun x hx k hk => by rw [htag3 k (D2.rc.blt x hx k hk)], kp := fun k o hk => ⟨(hB3.block k (heap_lt (D2.kp k o hk).1)).trans (D2.kp k o hk).1, by rw [htag3 k (heap_lt (D2.kp k o hk).1)]⟩ }
    have B3 : BX t tb xb rb (.slice va vn vc) ⟨pd, pa, pb, pc⟩ w3 := { (H2.out.2.1.below hB3) with g0 := ⟨by rw [htag3 _ (heap_lt H2.out.2.1.t)], by rw [htag3 _ (heap_lt H2.out.2.1.x)], by rw [htag3 _ (heap_lt H2.out.2.1.r)]⟩ }
    have hBA3 := H2.out.2.2.1.below hB3
    have H3 := Lib.hid (And.intro D3 (And.intro B3 (And.intro hBA3 hs')))
    obtain ⟨m0, -, -, -, -, -, -⟩ := B3.cells
    clear D2 D3 B3 hBA3 hs' hn' ht1 rt hB3 htag3
    go_upto_region 30 with fail
    refine wp_region_planH (aX := ?aXd) [4, 5, 7] [[], [4], [4, 5], [4, 5, 7]] 3 [(0, 0, 0), (0, 1, 1), (0, 2, 2), (1, 0, 0), (1, 1, 1), (1, 2, 2), (2, 0, 0), (2, 1, 1), (3, 0, 0), (4, 0, 1), (5, 1, 2), (6, 2, 2), (7, 2, 3), (8, 3, 3)]
      [.pointer (some ⟨s', 0, none⟩), .agg #[.slice va vn vc], .slice ab l.length cb, .agg #[.slice va vn vc], undef, undef, .pointer (some ⟨s', 0, none⟩), undef, .bool true]
      (D30 w3 l rb (.slice va vn vc)) (by kernel_rfl) (by kernel_rfl) rfl ?hXd (fun _ => undef) ?h0d ?hobd ?hendd
    case hXd => intro ξ; simp only [mixAll, Act.put]; go_simp; rfl
    case h0d => exact ⟨fun _ => (Below.refl _ w3).drew, fun q => absurd q (by decide), fun q => absurd q (by decide), fun q => absurd q (by decide)⟩
    case hobd =>
      repeat' (first
        | exact oblsH_nil
        | (refine oblsH_cons rfl ?_ ?_)
        | exact stepH_value rfl rfl (fun _ _ _ => rfl))
      · refine stepH_value rfl rfl ?_
        rintro ξ w4 h4
        have c := ((h4.b (by decide)).cell (p := ⟨tb, 0, none⟩) (cell_lt m0)).trans m0
        clear h4
        go_simp
        rfl
      · refine stepH_value rfl rfl ?_
        rintro ξ w4 h4
        have c := ((h4.b (by decide)).cell (p := ⟨tb, 0, none⟩) (cell_lt m0)).trans m0
        clear h4
        go_simp
        rfl
      · refine stepH_value rfl rfl ?_
        rintro ξ w4 h4
        have c := ((h4.b (by decide)).cell (p := ⟨tb, 0, none⟩) (cell_lt m0)).trans m0
        clear h4
        go_simp
        rfl
      · refine stepH_value rfl rfl ?_
        rintro ξ w4 h4
        have c := ((h4.b (by decide)).cell (p := ⟨tb, 0, none⟩) (cell_lt m0)).trans m0
        clear h4
        go_simp
        rfl
      · refine stepH_call rfl rfl ?_
        rintro ξ w4 h4
        refine ⟨62, #[.agg #[.slice va vn vc]], by clear h4; go_simp, ?_⟩
        have hb4 := h4.b (by decide)
        refine (rimage_calls (H3.out.1.rc.below hb4) H3.out.1.si.repo.ok).mono ?_
        rintro e5 w5 ⟨v5, rfl, s5, b5⟩
        rw [H3.out.1.si.gn, H2.out.2.2.2.2.2] at s5
        obtain ⟨b6, a6, c6, rfl, -, -, hA6⟩ := ublk_form s5 H2.out.2.2.2.2.1.1
        exact ⟨_, rfl, ⟨fun _ => hb4.trans (b5.mono hb4.size), fun _ => ⟨a6, c6, rfl, fun _ => hA6⟩, fun q => absurd q (by decide), fun q => absurd q (by decide)⟩⟩
      · refine stepH_call rfl rfl ?_
        rintro ξ w4 h4
        obtain ⟨a6, c6, q6, b6⟩ := h4.e4 (by decide)
        have hb4 := h4.b (by decide)
        refine ⟨31, #[.slice ab l.length cb, .slice a6 l.length c6], ?_, ?_⟩
        · have p6 := q6
          clear h4 q6 b6 hb4
          go_simp
        · refine (eqbytes_calls cb c6 (H3.out.2.2.1.below hb4) (b6 (by decide)) H2.out.2.2.2.2.1.2 H2.out.2.2.2.2.1.2).mono ?_
          rintro e7 w7 ⟨rfl, hB7⟩
          rw [decide_eq_true rfl]
          exact ⟨_, rfl, ⟨fun _ => hb4.trans (hB7.mono hb4.size), fun _ => ⟨a6, c6, q6, fun _ => (b6 (by decide)).below hB7⟩, fun _ => rfl, fun q => absurd q (by decide)⟩⟩
      · refine stepH_store rfl rfl rfl ?_
        rintro ξ w4 h4
        have hb4 := h4.b (by decide)
        have B4 := H3.out.2.1.below hb4
        obtain ⟨-, -, -, -, -, r0, r1⟩ := B4.cells
        obtain ⟨a6, c6, q6, b6⟩ := h4.e4 (by decide)
        refine ⟨w4.setCell ⟨rb, 0, none⟩ (.slice va vn vc), ?_, ?_⟩
        · clear h4 hb4 B4 q6 b6
          go_simp
        · exact ⟨fun q => absurd q (by decide), fun _ => ⟨a6, c6, q6, fun q => absurd q (by decide)⟩, fun _ => h4.e5 (by decide), fun _ => ⟨w4, hb4, rfl⟩⟩
      · refine stepH_value rfl rfl ?_
        rintro ξ w4 h4
        have q5 := h4.e5 (by decide)
        clear h4
        go_simp
        rfl
    case hendd =>
      rintro ξ w5 h5
      obtain ⟨w4, hb4, rfl⟩ := h5.fin rfl
      have B4 := H3.out.2.1.below hb4
      obtain ⟨-, -, -, -, -, r0, r1⟩ := B4.cells
      have c5 : (w4.setCell ⟨rb, 0, none⟩ (.slice va vn vc)).cell? ⟨rb, 0, none⟩ = some (.slice va vn vc) := World.cell?_setCell_same' _ _ _ (by rw [r0]; rfl)
      have D5 := (H3.out.1.below hb4).poke B4.r B4.g0.2.2 HRB.out ((Turn.refl (fun k => k = rb) w4).setCell (p := ⟨rb, 0, none⟩) (fun _ => rfl) (.slice va vn vc)) (KeepsOthers.setCell _ _ _)
      have HF := Lib.hid (And.intro D5 c5)
      clear D5 c5 r0 r1 B4 hb4 h5
      go_wp2_with fail
      (try simp only [Exit.inBlock, Exit.then]); refine bodyPost_ret (res_tct (v := .slice va vn vc) rfl _ _ rfl HF.out.2) rfl ?_
      have hs := H3.out.2.2.2
      subst hs
      exact ⟨t, _, _, _, rfl, HF.out.1⟩

theorem done_calls {w0 w : World} {n : Nat} {K : Nat → Obj → Prop} {g : Ghost} {S : St} {v : Value} {L : List RN} (h : DI w0 n K g S v L S w) {s : Nat} (hs : g.s = s) (p : Act4) (hpw : (Lit.int .i64 p.c).wf = true) :
    Calls Try.prog 33 #[.pointer (some ⟨s, 0, none⟩), .agg #[v], .agg #[.int .i64 p.d, .int .i64 p.a, .int .i64 p.b, .int .i64 p.c]] w (DonePost w0 n K) := by
  by_cases h6 : 0 ≤ p.d ∧ p.d ≤ 5
  · exact done_six h hs p hpw h6
  · exact done_other h hs p hpw h6
end Go.Sto
