/-
  OWN, REGIONS, by an invariant: steps of operations behind a guard that lets them run. Of no program.
-/
import Derived.Test.YtahfoejffibahaaQOwnRegionH
import Derived.Test.YtahfoejffibahaaQStoRRest2
import Derived.Test.YtahfoejffibahaaQStoBackPure
import Derived.Test.YtahfoejffibahaaQStoEq
import Derived.Test.YtahfoejffibahaaQStoBack
set_option linter.unusedVariables false

namespace Go.Own
open Go.RowKit
section
variable {P : Program} {l : List Oper} {eff : List Nat} {aX : (Nat → Value) → Act} {PI : Nat → (Nat → Value) → World → Prop} {i s s' : Nat} {o : Oper}
theorem stepH_value_on (he : eff.contains i = false) (h : ∀ ξ w, PI s ξ w → Region.wanted o (yielded l.toArray (aX ξ).tmps) = true ∧ (execOp (aX ξ).eval o).run P w = .ok (.value (valOf (aX ξ) o)) w) : StepH P l eff aX PI i s s' o :=
  fun ξ w hp => .inl ⟨(h ξ w hp).1, .inl ⟨(h ξ w hp).2, he⟩⟩
theorem stepH_call_on (he : eff.contains i = true) (h : ∀ ξ w, PI s ξ w → Region.wanted o (yielded l.toArray (aX ξ).tmps) = true ∧ ∃ f args, (execOp (aX ξ).eval o).run P w = .ok (.enter f args) w ∧ Calls P f args w (fun e w' => ∃ v, e = .returned v ∧ PI s' (updV ξ i v) w')) : StepH P l eff aX PI i s s' o :=
  fun ξ w hp => .inl ⟨(h ξ w hp).1, .inr (.inr (.inr ⟨he, (h ξ w hp).2⟩))⟩
theorem stepH_make_on (he : eff.contains i = true) (h : ∀ ξ w, PI s ξ w → Region.wanted o (yielded l.toArray (aX ξ).tmps) = true ∧ ∃ v w', (execOp (aX ξ).eval o).run P w = .ok (.value v) w' ∧ PI s' (updV ξ i v) w') : StepH P l eff aX PI i s s' o :=
  fun ξ w hp => .inl ⟨(h ξ w hp).1, .inr (.inl ⟨he, (h ξ w hp).2⟩)⟩
end
end Go.Own

/-
  StoreRestores, walked.
-/
namespace Go.Sto
open Go.Own Go.RowKit Go.Proofs

theorem rblocks_eq : ∀ (L : List RN) (S : St) (k : Nat), L.map (fun x => (x.n, x.u)) = S.map (fun b => (b.size, b.used)) → rblocks k L = blocks k S
  | [], [], _, _ => rfl
  | [], _ :: _, _, h => by simp at h
  | _ :: _, [], _, h => by simp at h
  | x :: L, b :: S, k, h => by
    simp only [List.map_cons, List.cons.injEq, Prod.mk.injEq] at h
    obtain ⟨⟨h1, h2⟩, h3⟩ := h
    simp only [rblocks, blocks, h1, h2]
    rw [rblocks_eq L S _ h3]

theorem rsz_eq : ∀ (L : List RN) (S : St), L.map (fun x => (x.n, x.u)) = S.map (fun b => (b.size, b.used)) → rsz L = sz S
  | [], [], _ => rfl
  | [], _ :: _, h => by simp at h
  | _ :: _, [], h => by simp at h
  | x :: L, b :: S, h => by
    simp only [List.map_cons, List.cons.injEq, Prod.mk.injEq] at h
    simp only [rsz, sz, h.1.1, rsz_eq L S h.2]

theorem parse_ne (pv : Option Bool) (left : Int) (l : List Int) : parse pv left l ≠ .error 0 := by
  unfold parse
  repeat' split
  all_goals (intro e; cases e)
theorem blocksIn_ne : ∀ (f : Nat) (pv : Option Bool) (left : Int) (l : List Int), left < f → 0 < f → blocksIn f pv left l ≠ .error 0
  | 0, _, left, l, h, h1 => by omega
  | f + 1, pv, left, l, h, _ => by
    rw [blocksIn]
    split
    · intro e; cases e
    · rename_i h0
      cases hp : parse pv left l with
      | error e =>
        simp only
        intro he
        cases he
        exact parse_ne _ _ _ hp
      | ok q =>
        obtain ⟨size, used, ws, r⟩ := q
        have h2 := (parse_ok hp).1
        simp only
        have ih := blocksIn_ne f (some used) (left - size) r (by omega) (by omega)
        cases hb : blocksIn f (some used) (left - size) r with
        | error e =>
          simp only
          intro he
          cases he
          exact ih hb
        | ok q => intro he; cases he
theorem restore_ne (l : List Int) : restore l ≠ .error 0 := by
  unfold restore
  split
  · intro e; cases e
  · split
    · intro e; cases e
    · have := blocksIn_ne ((dec (l.take 8)).toNat + 1) none (dec (l.take 8)) (l.drop 8) (by omega) (by omega)
      cases hb : blocksIn ((dec (l.take 8)).toNat + 1) none (dec (l.take 8)) (l.drop 8) with
      | error e =>
        simp only
        intro he
        cases he
        exact this hb
      | ok q =>
        obtain ⟨S, r⟩ := q
        simp only
        split <;> (intro e; cases e)

/-- What holds at each stage of the law's last region. -/
structure R7 (W : World) (S : St) (l : List Int) (s : Nat) (ξ : Nat → Value) (w : World) : Prop where
  bel : Below W.heap.size W w
  e1 : 1 ≤ s → ∃ a c, ξ 1 = .slice a (blocks 0 S).length c ∧ BlksC w a (blocks 0 S)
  e3 : 2 ≤ s → ∃ a c, ξ 3 = .slice a (blocks 0 S).length c ∧ BlksC w a (blocks 0 S)
  e4 : 3 ≤ s → ξ 4 = .bool true
  e7 : 4 ≤ s → ∃ a c, ξ 7 = .slice a l.length c ∧ BytesA w a l
  e9 : 5 ≤ s → ξ 9 = .bool true
  e12 : 6 ≤ s → ξ 12 = .bool true
theorem R7.next {W w w' : World} {S : St} {l : List Int} {s : Nat} {ξ : Nat → Value} (h : R7 W S l s ξ w) (hB : Below w.heap.size w w') : R7 W S l s ξ w' :=
  { bel := h.bel.trans (hB.mono h.bel.size)
    e1 := fun q => by obtain ⟨a, c, e, b⟩ := h.e1 q; exact ⟨a, c, e, b.below hB⟩
    e3 := fun q => by obtain ⟨a, c, e, b⟩ := h.e3 q; exact ⟨a, c, e, b.below hB⟩
    e4 := h.e4
    e7 := fun q => by obtain ⟨a, c, e, b⟩ := h.e7 q; exact ⟨a, c, e, b.below hB⟩
    e9 := h.e9, e12 := h.e12 }

set_option maxRecDepth 100000 in
set_option maxHeartbeats 4000000 in
theorem restores_all (w0 : World) (l : List Int) (bb : Nat) (a : Option Addr) (cap : Nat) (hb : BytesC w0 bb a l) (hle : l.length ≤ cap) (hby : ∀ x ∈ l, 0 ≤ x ∧ x < 256) :
    Calls Try.prog 8 #[.slice a l.length cap] w0 fun e w' => e = .returned (.bool true) ∧ Below w0.heap.size w0 w' := by
  have hawk : ∀ w, Below w0.heap.size w0 w → Calls Try.prog 12 #[] w fun e w' => e = .returned (.bool true) ∧ Below w0.heap.size w0 w' := fun w hB => (awake_calls w).mono (by
    rintro e w' ⟨rfl, o⟩
    exact ⟨rfl, hB.trans ⟨o.os, o.tape, o.output, o.size, fun k hk => o.block k (by have := hB.size; omega) (by have := hB.size; omega)⟩⟩)
  by_cases h4 : l.length ≤ 40000
  · have q1 : decide ((40000 : Int) < (l.length : Int)) = false := decide_eq_false (by omega)
    have q2 : decide (40000 < l.length) = false := decide_eq_false (by omega)
    have hba : BytesA w0 a l := fun k x hk => by
      obtain ⟨off, e, c⟩ := hb k x hk
      exact ⟨bb, off, e, c⟩
    have HI := Lib.hid (And.intro hb (And.intro hle (And.intro hby (And.intro hba h4))))
    have hr := restore_calls hb hle (by omega) hby
    have HR := Lib.hid hr
    clear hb hle hby hba h4 hr
    go_enter Try.func8, Try.ntmps8
    go_wp2_with fail
    refine HR.out.mono ?_
    rintro e1 w1 h1
    have hB1 : Below w0.heap.size w0 w1 := by
      rcases h1 with ⟨er, -, -, h, -⟩ | ⟨n, S, g, -, -, -, -, h, -⟩ <;> exact h
    have hb1 : BytesC w1 bb a l := fun k x hk => by
      obtain ⟨off, e, c⟩ := HI.out.1 k x hk
      exact ⟨off, e, (hB1.cell (p := ⟨bb, off + k, none⟩) (cell_lt c)).trans c⟩
    have HR2 := Lib.hid (rrestore_calls hb1 HI.out.2.1 (by have := HI.out.2.2.2.2; omega) HI.out.2.2.1)
    have HB1 := Lib.hid hB1
    clear hB1 hb1
    rcases h1 with ⟨er, hre, rfl, -, -⟩ | ⟨n, S, g, hre, rfl, hgn, rg, -, -, -⟩
    · have hne : er ≠ 0 := by
        rintro rfl
        exact restore_ne l hre
      have f1 : (er == 0) = false := beq_eq_false_iff_ne.2 hne
      have f2 : (er != 0) = true := by simp [bne, f1]
      have HRE := Lib.hid hre
      clear hre hne
      go_wp2_with fail
      refine HR2.out.mono ?_
      rintro e2 w2 ⟨hB2, (⟨er2, hre2, rfl⟩ | ⟨n, S, v, L, hre2, -⟩)⟩
      · have : er2 = er := by rw [HRE.out] at hre2; cases hre2; rfl
        subst this
        have HW := Lib.hid (hawk (w2.alloc (.cells #[.slice none 0 0] 59)) ((HB1.out.trans (hB2.mono HB1.out.size)).alloc (Nat.le_trans HB1.out.size hB2.size) _))
        clear hB2 hre2
        go_wp2_with fail
        refine HW.out.mono ?_
        rintro e3 w3 ⟨rfl, o3⟩
        go_wp2
        go_ret
        exact ⟨by simp, o3⟩
      · rw [HRE.out] at hre2; cases hre2
    · have HG := Lib.hid (And.intro hre (And.intro hgn rg))
      obtain ⟨s, hs⟩ : ∃ s, g.s = s := ⟨_, rfl⟩
      rw [hs]
      have HSS := Lib.hid hs
      clear hre hgn rg hs
      go_wp2_with fail
      refine HR2.out.mono ?_
      rintro e2 w2 ⟨hB2, (⟨er2, hre2, -⟩ | ⟨n2, S2, v, L, hre2, rfl, hra, hsh⟩)⟩
      · rw [HG.out.1] at hre2; cases hre2
      · have hSS : S2 = S := by rw [HG.out.1] at hre2; cases hre2; rfl
        subst hSS
        obtain ⟨va, vc, rfl, -⟩ := hra.form
        have cb : (w2.alloc (.cells #[.slice va L.length vc] 59)).cell? ⟨w2.heap.size, 0, none⟩ = some (.slice va L.length vc) := cell_at (heap_alloc_new w2 _) rfl
        have hra := hra.below ((Below.refl _ w2).alloc (Nat.le_refl _) (.cells #[.slice va L.length vc] 59))
        have hrg2 : Repo g S2 (w2.alloc (.cells #[.slice va L.length vc] 59)) := ⟨(HG.out.2.2.rep.below hB2 (Nat.le_refl _)).alloc _, HG.out.2.2.ok⟩
        have hB02 := (HB1.out.trans (hB2.mono HB1.out.size)).alloc (Nat.le_trans HB1.out.size hB2.size) (.cells #[.slice va L.length vc] 59)
        have H2 := Lib.hid (And.intro hrg2 (And.intro hra (And.intro hsh hB02)))
        clear hre2 hB2 hrg2 hra hsh hB02
        have hlen := H2.out.1.ok.len
        have hrz : rsz L ≤ 32000 := by rw [rsz_eq L S2 H2.out.2.2.1]; exact H2.out.1.ok.le
        have hrl : L.length ≤ 16000 := by have := congrArg List.length H2.out.2.2.1; simp only [List.length_map] at this; omega
        have hbl : (blocks 0 S2).length ≤ 1000000 := by rw [blocks_length]; omega
        have himg : image g.n S2 = l := by
          have := restore_flat HG.out.1 HI.out.2.2.1
          rw [HG.out.2.1, this]; rfl
        have hl8 : 8 ≤ l.length := by have h0 := (image_length H2.out.1.ok).1; rwa [himg] at h0
        have hlb : l.length ≤ 1000000000 := by have := HI.out.2.2.2.2; omega
        have HF := Lib.hid (And.intro hrz (And.intro hrl (And.intro hbl (And.intro himg (And.intro hl8 hlb)))))
        clear hlen hrz hrl hbl himg hl8 hlb
        go_upto_region 7 with fail
        obtain ⟨W, hW⟩ : ∃ W, w2.alloc (.cells #[.slice va L.length vc] 59) = W := ⟨_, rfl⟩
        rw [hW] at cb H2
        obtain ⟨tb, htb⟩ : ∃ tb, w2.heap.size = tb := ⟨_, rfl⟩
        rw [htb] at cb
        rw [hW, htb]
        clear hW htb
        have HC := Lib.hid cb
        have HS2 := Lib.hid (show Repo g S2 W ∧ RefAt W (.slice va L.length vc) L ∧ L.map (fun x => (x.n, x.u)) = S2.map (fun b => (b.size, b.used)) ∧ Below w0.heap.size w0 W from H2.out)
        clear cb
        obtain ⟨N, hN⟩ : ∃ N, (blocks 0 S2).length = N := ⟨_, rfl⟩
        have HN := Lib.hid hN
        clear hN
        refine wp_region_planH (aX := ?aX7) [1, 3, 4, 7, 9, 12] [[], [1], [1, 3], [1, 3, 4], [1, 3, 4, 7], [1, 3, 4, 7, 9], [1, 3, 4, 7, 9, 12]] 6 [(0, 0, 0), (1, 0, 1), (2, 0, 0), (2, 1, 1), (3, 1, 2), (4, 2, 3), (5, 3, 3), (6, 3, 3), (7, 3, 4), (8, 3, 3), (8, 4, 4), (9, 4, 5), (10, 5, 5), (11, 5, 5), (12, 5, 6), (13, 6, 6), (14, 6, 6)]
          [.pointer (some ⟨s, 0, none⟩), undef, .agg #[.slice va L.length vc], undef, undef, .bool true, .pointer (some ⟨s, 0, none⟩), undef, .slice a l.length cap, undef, .bool true, .bool true, undef, .bool true, .bool true]
          (R7 W S2 l) (by kernel_rfl) (by kernel_rfl) rfl ?hX7 (fun _ => undef) ?h07 ?hob7 ?hend7
        case hX7 => intro ξ; simp only [mixAll, Act.put]; go_simp; rfl
        case h07 => exact ⟨(Below.refl _ W).drew, fun q => absurd q (by decide), fun q => absurd q (by decide), fun q => absurd q (by decide), fun q => absurd q (by decide), fun q => absurd q (by decide), fun q => absurd q (by decide)⟩
        case hob7 =>
          refine oblsH_cons rfl (stepH_value rfl rfl (fun _ _ _ => rfl)) ?_
          refine oblsH_cons rfl (stepH_call rfl rfl ?_) ?_
          · rintro ξ w h
            refine ⟨22, #[.pointer (some ⟨s, 0, none⟩)], by go_simp, ?_⟩
            refine (blocks_calls (show Repo g S2 w from ⟨HS2.out.1.rep.below h.bel (Nat.le_refl _), HS2.out.1.ok⟩) HSS.out).mono ?_
            rintro e3 w3 ⟨v3, rfl, s3, hB3, -⟩
            obtain ⟨a3, c3, rfl, -, -, hc3⟩ := blocks_form s3
            have h' := h.next hB3
            exact ⟨_, rfl, { bel := h'.bel, e1 := fun _ => ⟨a3, c3, rfl, hc3⟩, e3 := fun q => absurd q (by decide), e4 := fun q => absurd q (by decide), e7 := fun q => absurd q (by decide), e9 := fun q => absurd q (by decide), e12 := fun q => absurd q (by decide) }⟩
          refine oblsH_cons rfl (stepH_value rfl rfl ?_) ?_
          · rintro ξ w h
            have c := (h.bel.cell (p := ⟨tb, 0, none⟩) (cell_lt HC.out)).trans HC.out
            clear h
            go_simp
            rfl
          refine oblsH_cons rfl (stepH_value rfl rfl ?_) ?_
          · rintro ξ w h
            have c := (h.bel.cell (p := ⟨tb, 0, none⟩) (cell_lt HC.out)).trans HC.out
            clear h
            go_simp
            rfl
          refine oblsH_cons rfl (stepH_call rfl rfl ?_) ?_
          · rintro ξ w h
            refine ⟨30, #[.agg #[.slice va L.length vc]], by go_simp, ?_⟩
            refine (rblocks_calls (SliceAt.keep HS2.out.2.1 fun k hk => h.bel.block k (SliceAt.lt HS2.out.2.1 k hk)) HF.out.1 HF.out.2.1).mono ?_
            rintro e4 w4 ⟨v4, rfl, s4, hB4⟩
            rw [rblocks_eq L S2 0 HS2.out.2.2.1] at s4
            obtain ⟨a4, c4, rfl, -, -, hc4⟩ := blocks_form s4
            have h' := h.next hB4
            exact ⟨_, rfl, { bel := h'.bel, e1 := fun q => h'.e1 (by decide), e3 := fun _ => ⟨a4, c4, rfl, hc4⟩, e4 := fun q => absurd q (by decide), e7 := fun q => absurd q (by decide), e9 := fun q => absurd q (by decide), e12 := fun q => absurd q (by decide) }⟩
          refine oblsH_cons rfl (stepH_call rfl rfl ?_) ?_
          · rintro ξ w h
            obtain ⟨a3, c3, q3, b3⟩ := h.e1 (by decide)
            obtain ⟨a4, c4, q4, b4⟩ := h.e3 (by decide)
            refine ⟨16, #[.slice a3 (blocks 0 S2).length c3, .slice a4 (blocks 0 S2).length c4], ?_, ?_⟩
            · have p3 := q3
              have p4 := q4
              clear h q3 q4 b3 b4
              go_simp
            · refine (eqblocks_calls c3 c4 b3 b4 HF.out.2.2.1 HF.out.2.2.1).mono ?_
              rintro e5 w5 ⟨rfl, hB5⟩
              rw [decide_eq_true rfl]
              have h' := h.next hB5
              exact ⟨_, rfl, { bel := h'.bel, e1 := fun q => h'.e1 (by decide), e3 := fun q => h'.e3 (by decide), e4 := fun _ => rfl, e7 := fun q => absurd q (by decide), e9 := fun q => absurd q (by decide), e12 := fun q => absurd q (by decide) }⟩
          refine oblsH_cons rfl (stepH_value rfl rfl ?_) ?_
          · rintro ξ w h
            have q4 := h.e4 (by decide)
            clear h
            go_simp
            rfl
          refine oblsH_cons rfl (stepH_value_on rfl ?_) ?_
          · rintro ξ w h
            refine ⟨rfl, ?_⟩
            clear h
            go_simp
            rfl
          refine oblsH_cons rfl (stepH_call_on rfl ?_) ?_
          · rintro ξ w h
            refine ⟨rfl, 27, #[.pointer (some ⟨s, 0, none⟩)], by clear h; go_simp, ?_⟩
            have r5 : Repo g S2 w := ⟨HS2.out.1.rep.below h.bel (Nat.le_refl _), HS2.out.1.ok⟩
            refine (image_calls r5 HSS.out).mono ?_
            rintro e6 w6 ⟨v6, rfl, s6, hB6, -⟩
            rw [HF.out.2.2.2.1] at s6
            obtain ⟨b6, a6, c6, rfl, -, -, hA6⟩ := ublk_form s6 HF.out.2.2.2.2.1
            have h' := h.next hB6
            exact ⟨_, rfl, { bel := h'.bel, e1 := fun q => h'.e1 (by decide), e3 := fun q => h'.e3 (by decide), e4 := fun _ => h.e4 (by decide), e7 := fun _ => ⟨a6, c6, rfl, hA6⟩, e9 := fun q => absurd q (by decide), e12 := fun q => absurd q (by decide) }⟩
          refine oblsH_cons rfl (stepH_value_on rfl ?_) ?_
          · rintro ξ w h
            refine ⟨rfl, ?_⟩
            clear h
            go_simp
            rfl
          refine oblsH_cons rfl (stepH_value_on rfl ?_) ?_
          · rintro ξ w h
            refine ⟨rfl, ?_⟩
            clear h
            go_simp
            rfl
          refine oblsH_cons rfl (stepH_call_on rfl ?_) ?_
          · rintro ξ w h
            obtain ⟨a6, c6, q6, b6⟩ := h.e7 (by decide)
            refine ⟨rfl, 31, #[.slice a6 l.length c6, .slice a l.length cap], ?_, ?_⟩
            · have p6 := q6
              clear h q6 b6
              go_simp
            · refine (eqbytes_calls c6 cap b6 (HI.out.2.2.2.1.below (HS2.out.2.2.2.trans (h.bel.mono HS2.out.2.2.2.size))) HF.out.2.2.2.2.2 HF.out.2.2.2.2.2).mono ?_
              rintro e7 w7 ⟨rfl, hB7⟩
              rw [decide_eq_true rfl]
              have h' := h.next hB7
              exact ⟨_, rfl, { bel := h'.bel, e1 := fun q => h'.e1 (by decide), e3 := fun q => h'.e3 (by decide), e4 := fun _ => h.e4 (by decide), e7 := fun q => h'.e7 (by decide), e9 := fun _ => rfl, e12 := fun q => absurd q (by decide) }⟩
          refine oblsH_cons rfl (stepH_value rfl rfl ?_) ?_
          · rintro ξ w h
            have q9 := h.e9 (by decide)
            clear h
            go_simp
            rfl
          refine oblsH_cons rfl (stepH_value rfl rfl ?_) ?_
          · rintro ξ w h
            clear h
            go_simp
            rfl
          refine oblsH_cons rfl (stepH_call_on rfl ?_) ?_
          · rintro ξ w h
            refine ⟨rfl, 12, #[], by clear h; go_simp, ?_⟩
            refine (awake_calls w).mono ?_
            rintro e8 w8 ⟨rfl, o⟩
            have h' := h.next ⟨o.os, o.tape, o.output, o.size, fun k hk => o.block k hk (by omega)⟩
            exact ⟨_, rfl, { bel := h'.bel, e1 := fun q => h'.e1 (by decide), e3 := fun q => h'.e3 (by decide), e4 := fun _ => h.e4 (by decide), e7 := fun q => h'.e7 (by decide), e9 := fun _ => h.e9 (by decide), e12 := fun _ => rfl }⟩
          refine oblsH_cons rfl (stepH_value rfl rfl ?_) ?_
          · rintro ξ w h
            have q12 := h.e12 (by decide)
            clear h
            go_simp
            rfl
          refine oblsH_cons rfl (stepH_value rfl rfl ?_) ?_
          · rintro ξ w h
            clear h
            go_simp
            rfl
          exact oblsH_nil
        case hend7 =>
          rintro ξ w8 h
          have HE := Lib.hid (HS2.out.2.2.2.trans (h.bel.mono HS2.out.2.2.2.size))
          clear h
          go_wp2
          go_ret
          exact ⟨rfl, HE.out⟩
  · have q1 : decide ((40000 : Int) < (l.length : Int)) = true := decide_eq_true (by omega)
    have q2 : decide (40000 < l.length) = true := decide_eq_true (by omega)
    have HW := Lib.hid (hawk w0 (Below.refl _ _))
    clear hb hby
    go_enter Try.func8, Try.ntmps8
    go_wp2_with fail
    refine HW.out.mono ?_
    rintro e3 w3 ⟨rfl, o3⟩
    go_wp2
    go_ret
    exact ⟨rfl, o3⟩
end Go.Sto
