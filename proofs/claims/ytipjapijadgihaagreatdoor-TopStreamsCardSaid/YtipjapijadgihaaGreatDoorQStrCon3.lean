/-
  The console: Write of whole lines by task 1.
-/
import Derived.Test.YtipjapijadgihaaGreatDoorQStrCon
set_option linter.unusedVariables false

namespace Go.Str
open Go.Own Go.RowKit Go.Proofs

/-- Bytes that go on behind k bytes of a line: lines of at most 79 printable bytes, each ended. -/
def okL : Nat → Bytes → Prop
  | k, [] => k = 0
  | k, x :: d => if x = 10 then okL 0 d else 32 ≤ x.toNat ∧ x.toNat ≤ 126 ∧ k < 79 ∧ okL (k + 1) d

section
variable {w0 w w' w1 w2 : World} {c om : Nat} {O O' X : Bytes} {sv ov v' : Value}

/-- The line has turned. -/
theorem CI.set_out (h : CI w0 c om O X sv ov w) (ht : Turn (fun k => ov.ownBlock = some k) w w1) (hs : SliceAt w1 5 1 v' (bcells O')) (hw : ∀ k, v'.ownBlock = some k → ov.ownBlock = some k ∨ w.heap.size ≤ k)
    {f : Int → Option Value} (hm : MapS w2 om f) (hf : f 1 = some v') (ht2 : Turn (fun k => k = om) w1 w2) : CI w0 c om O' X sv v' w2 := by
  obtain ⟨lm, fm, hb⟩ := h.cb
  have hlt := heap_lt hb
  have hsz := ht.size
  have h0 := h.turn.size
  obtain ⟨f0, hf0, -⟩ := h.m
  have hom := hf0.lt
  have hown : ∀ k, v'.ownBlock = some k → w0.heap.size ≤ k ∧ k ≠ c ∧ k ≠ om ∧ sv.ownBlock ≠ some k := fun k hk => by
    rcases hw k hk with e | e
    · exact ⟨(h.yv k e).1, (h.yv k e).2.1, (h.yv k e).2.2, fun e' => (h.ys k e').2.2.2 e⟩
    · exact ⟨by omega, by omega, by omega, fun e' => by have := h.s.lt k e'; omega⟩
  have hc1 : w1.heap[c]? = w.heap[c]? := ht.block c hlt (fun e => (h.yv _ e).2.1 rfl)
  refine ⟨(h.turn.young ht (fun k hk => (h.yv k hk).1)).young ht2 (fun k hk => by rw [hk]; exact h.yo), ⟨lm, fm, ?_⟩, ⟨f, hm, .inl hf⟩, ?_, hs.turn ht2 (fun k hk e => (hown k hk).2.2.1 e), h.yc, h.yo, fun k hk => ⟨(h.ys k hk).1, (h.ys k hk).2.1, (h.ys k hk).2.2.1, fun e => (hown k e).2.2.2 hk⟩, fun k hk => ⟨(hown k hk).1, (hown k hk).2.1, (hown k hk).2.2.1⟩, h.co⟩
  · rw [ht2.block c (by omega) h.co, hc1]; exact hb
  · exact (h.s.turn ht (fun k hk e => (h.ys k hk).2.2.2 e)).turn ht2 (fun k hk e => (h.ys k hk).2.2.1 e)

theorem CI.look (h : CI w0 c om O X sv ov w) : (Instr.lookup 118 (.map (some om)) (.int .i64 1) false).run Tryz.prog w = .ok ov w := by
  obtain ⟨f, hf, hf1⟩ := h.m
  have hh := hf.at.lookup (P := Tryz.prog) (t := 118) (z := .slice none 0 0) Tryz.underlying3 Tryz.underlying118 (by kernel_rfl) (k := 1) (wf_i64 (by omega) (by omega))
  rw [hh]
  rcases hf1 with e | ⟨e, rfl⟩
  · rw [e]; rfl
  · rw [e]; rfl

def WI (w0 : World) (c om : Nat) (d : Bytes) (gk : Nat) (iv : Value) (w : World) : Prop :=
  ∃ i O X sv ov, gk + i = d.length ∧ iv = .int .i64 (i : Nat) ∧ X ++ O = d.take i ∧ okL O.length (d.drop i) ∧ O.length ≤ 79 ∧ CI w0 c om O X sv ov w

set_option maxRecDepth 10000 in
set_option maxHeartbeats 2000000 in
theorem cwrite_calls (h : CI w0 c om [] [] sv ov w) {u : Value} {d : Bytes} (hu : SliceAt w0 5 1 u (bcells d)) (hd : d.length ≤ 2000) (hok : okL 0 d) :
    Calls Tryz.prog 17 #[pt c, .int .i64 1, u] w fun e w' => e = .returned (.int .i64 0) ∧ ∃ sv' ov', CI w0 c om [] d sv' ov' w' := by
  obtain ⟨ua, uc, rfl, -, -⟩ := bytes_form hu
  simp only [bcells_length] at hu ⊢
  obtain ⟨N, hN⟩ : ∃ N, d.length = N := ⟨_, rfl⟩
  have HN := Lib.hid hN
  rw [hN] at hu ⊢
  have H := Lib.hid (And.intro h (And.intro hu (And.intro hd hok)))
  clear h hu hd hok hN
  go_enter Tryz.func17, Tryz.ntmps17
  go_wp2_with fail
  refine (cready_calls H.out.1).mono ?_
  rintro e1 w1 ⟨rfl, rfl⟩
  have HI := Lib.hid (show WI w0 c om d N (.int .i64 0) w1 from ⟨0, [], [], sv, ov, by rw [HN.out]; rfl, rfl, rfl, H.out.2.2.2, by decide, H.out.1⟩)
  go_wp2_with fail
  go_loopg [21] (N) (fun gk iv wr => WI w0 c om d gk iv wr)
  case atStart => exact HI.out
  case round =>
    obtain ⟨i, O, X, sv1, ov1, hgk, rfl, hXO, hok, hOl, hC⟩ := hrel
    have hN := HN.out
    rw [hN] at hgk
    by_cases hi : i < N
    · obtain ⟨x, hx⟩ : ∃ x, d[i]? = some x := ⟨_, List.getElem?_eq_getElem (by rw [hN]; exact hi)⟩
      have hdr : d.drop i = x :: d.drop (i + 1) := by
        rw [List.drop_eq_getElem_cons (by rw [hN]; exact hi)]
        rw [List.getElem?_eq_getElem (by rw [hN]; exact hi)] at hx
        rw [Option.some.inj hx]
      rw [hdr] at hok
      obtain ⟨ub, uo, rfl⟩ := H.out.2.1.addr (by omega)
      have hcell := (H.out.2.1.turn hC.turn (fun _ _ e => e)).cells i (.int .u8 (x.toNat : Int)) (by unfold bcells; rw [List.getElem?_map, hx]; rfl)
      obtain ⟨lm, fm, hb⟩ := hC.cb
      obtain ⟨-, -, c7, -, -, -⟩ := con_cells hb
      have lk := hC.look
      have HC := Lib.hid (And.intro hC (And.intro hgk (And.intro hXO (And.intro hok (And.intro hOl (And.intro hx hi))))))
      clear hC hgk hXO hok hOl hb hx hdr hN
      by_cases h10 : x = 10
      · subst h10
        have hXl : X.length ≤ 10000 := by
          have := congrArg List.length HC.out.2.2.1
          rw [List.length_append, List.length_take] at this
          have := H.out.2.2.1
          omega
        have HL := Lib.hid (line_calls HC.out.1 hXl (by have := HC.out.2.2.2.2.1; omega))
        clear hXl
        go_wp2_with fail
        refine HL.out.mono ?_
        rintro e3 w3 ⟨rfl, sv3, h3⟩
        obtain ⟨lm3, fm3, hb3⟩ := h3.cb
        obtain ⟨-, -, d7, -, -, -⟩ := con_cells hb3
        obtain ⟨f3, hf3, -⟩ := h3.m
        have H3 := Lib.hid (And.intro h3 hf3)
        clear h3 hb3 hf3 c7 lk hcell
        go_wp2_with (
          refine wpList_updateS rfl _ _ _ rfl Tryz.underlying3 Tryz.underlying118 rfl H3.out.2 rfl (wf_i64 (by omega) (by omega)) rfl ?_
          intro w5 hM6 ht6 hs6
          have HM := Lib.hid (And.intro hM6 ht6)
          clear hM6 ht6 hs6)
        have hC5 := H3.out.1.set_out (O' := []) (v' := .slice none 0 0) (Turn.refl _ _) (SliceAt.nil _ _ _) (fun k hk => by simp [Value.ownBlock] at hk) HM.out.1 (upd_self _ _ _) HM.out.2
        have hgk := HC.out.2.1
        have hN2 : N ≤ 2000 := by rw [← HN.out]; exact H.out.2.2.1
        have hi := HC.out.2.2.2.2.2.2
        have hw : IntKind.i64.wrap ((i : Int) + 1) = ((i + 1 : Nat) : Int) := by
          have := H.out.2.2.1
          have := HN.out
          rw [IntWalk.i64_in _ (by omega)]; omega
        go_roundg (gk - 1)
        case rel =>
          refine ⟨i + 1, [], X ++ O ++ [10], _, _, by rw [HN.out]; omega, congrArg (Value.int .i64) ((IntWalk.i64_left _).symm.trans hw), ?_, ?_, by decide, hC5⟩
          · rw [List.append_nil, HC.out.2.2.1, List.take_add_one, HC.out.2.2.2.2.2.1]
            rfl
          · have := HC.out.2.2.2.1
            unfold okL at this
            rw [if_pos rfl] at this
            exact this
        case measure => omega
      · have hk := HC.out.2.2.2.1
        unfold okL at hk
        rw [if_neg h10] at hk
        obtain ⟨k1, k2, k3, k4⟩ := hk
        obtain ⟨n, hn⟩ : ∃ n, x.toNat = n := ⟨_, rfl⟩
        have hn10 : n ≠ 10 := fun e => h10 (UInt8.toNat_inj.1 (by rw [hn, e]; rfl))
        rw [hn] at k1 k2 hcell
        obtain ⟨oa, oc, rfl, -, -⟩ := bytes_form HC.out.1.o
        have hA := HC.out.1.new (w1 := (wr.alloc (.cells #[.int .u8 (n : Int)] 5)).drew) (((Turn.refl _ wr).alloc _).drew)
        have lk0 := (HC.out.1.new (w1 := wr.drew) (Turn.refl _ wr).drew).look
        have lk1 := hA.look
        have ho := hA.o
        simp only [bcells_length] at ho hA lk lk0 lk1 HC
        obtain ⟨v', wa, happ, hs1, ht1, ho1, -⟩ := run_append (P := Tryz.prog) (wr.alloc (.cells #[.int .u8 (n : Int)] 5)).drew 30 30 30 5 1 1 _ Tryz.underlying30 (.inr ⟨_, Tryz.underlying30⟩) elemU8 _ _ ho (.slice (some ⟨wr.heap.size, 0, none⟩) 1 1) 1 _ (Src.block (heap_alloc_new wr (.cells #[.int .u8 (n : Int)] 5)) rfl) (by intro u hu; simp at hu; subst hu; rfl) (by simp; omega) (by simp; omega)
        obtain ⟨pa, pn, pc, rfl, -⟩ := hs1.form
        obtain ⟨f, hf, -⟩ := hA.m
        have hfa := hf.keep (ht1.block _ hf.lt (fun e => (hA.yv _ e).2.2 rfl))
        obtain ⟨wb, hup, hm2, ht2, hz2⟩ := hfa.update (P := Tryz.prog) (t := 118) Tryz.underlying3 Tryz.underlying118 (k := 1) (wf_i64 (by omega) (by omega)) (.slice pa pn pc)
        have hC2 := hA.set_out (O' := O ++ [x]) ht1 (by have := hs1; rw [show ((#[Value.int .u8 (n : Int)] : Array Value).toList) = bcells [x] by rw [← hn]; rfl, ← bcells_append] at this; exact this) (fun k hk => by
          rcases ho1 with e | e
          · exact .inl (e ▸ hk)
          · rw [e] at hk; cases hk; exact .inr (Nat.le_refl _)) hm2 (upd_self _ _ _) ht2
        obtain ⟨lmA, fmA, hbA⟩ := hA.cb
        have hltA := heap_lt hbA
        have y7 : (wr.alloc (.cells #[.int .u8 (n : Int)] 5)).cell? ⟨c, 7, none⟩ = some (.map (some om)) := (con_cells hbA).2.2.1
        have z7 : wa.cell? ⟨c, 7, none⟩ = some (.map (some om)) := by
          rw [ht1.cell (p := ⟨c, 7, none⟩) (fun e => (hA.yv _ e).2.1 rfl) hltA]
          exact (con_cells hbA).2.2.1
        have q1 : ((n : Int) == 10) = false := beq_eq_false_iff_ne.2 (by omega)
        have q5 : ¬ (126 : Int) < (n : Int) := by omega
        have q6 : ¬ (n : Int) < 32 := by omega
        obtain ⟨ol, hol⟩ : ∃ ol, O.length = ol := ⟨_, rfl⟩
        have q8 : ((ol : Int) == 80) = false := beq_eq_false_iff_ne.2 (by omega)
        have H2 := Lib.hid (And.intro hC2 (And.intro k3 (And.intro k4 (And.intro hn hol))))
        rw [hol] at lk lk0 lk1 happ
        clear hA ho hs1 ht1 ho1 hf hfa hm2 ht2 hz2 hC2 hbA hltA h10 hn10 k1 k2 k3 k4 hn hol
        go_upto_region 17 with fail
        refine wp_region_plan (aF := ?aF_3) [12, 13, 14] [(0, 0), (0, 1), (0, 2), (1, 0), (1, 1), (1, 2), (2, 0), (2, 1), (2, 2), (3, 0), (3, 1), (3, 2), (4, 0), (4, 1), (4, 2), (5, 0), (5, 1), (5, 2), (6, 0), (6, 1), (6, 2), (7, 0), (7, 1), (8, 0), (8, 1), (9, 0), (9, 1), (10, 0), (10, 1), (11, 0), (12, 0), (13, 1), (14, 2)] [wr.drew, (wr.alloc (.cells #[.int .u8 (n : Int)] 5)).drew, wa, wb] [?v0_3, ?v1_3, ?v2_3, ?v3_3, ?v4_3, ?v5_3, ?v6_3, ?v7_3, ?v8_3, ?v9_3, ?v10_3, ?v11_3, ?v12_3, .slice pa pn pc, undef] (by kernel_rfl) (by kernel_rfl) ?hF_3 rfl rfl rfl ?hob_3 ?hend_3
        case hF_3 => simp only [putAll, Act.put]; go_simp; rfl
        case hob_3 =>
          repeat' (first
            | exact obls_nil
            | (refine obls_cons rfl rfl rfl ?_ ?_)
            | (apply Runs.skip rfl rfl; (focus (go_simp; try exact rfl)); exact rfl)
            | (apply Runs.value rfl; (focus (go_simp; try exact rfl)); exact rfl))
          exact Runs.append rfl (.tmp 79) (.tmp 81) 30 30 rfl _ _ _ rfl rfl happ rfl
        clear c7 y7 z7 lk lk0 lk1 happ hup hcell
        go_wp2
        have hgk := HC.out.2.1
        have hi := HC.out.2.2.2.2.2.2
        have hw : IntKind.i64.wrap ((i : Int) + 1) = ((i + 1 : Nat) : Int) := by
          have := H.out.2.2.1
          have := HN.out
          rw [IntWalk.i64_in _ (by omega)]; omega
        go_roundg (gk - 1)
        case rel =>
          refine ⟨i + 1, O ++ [x], X, _, _, by rw [HN.out]; omega, congrArg (Value.int .i64) ((IntWalk.i64_left _).symm.trans hw), ?_, ?_, ?_, H2.out.1⟩
          · rw [← List.append_assoc, HC.out.2.2.1, List.take_add_one, HC.out.2.2.2.2.2.1]
            rfl
          · rw [List.length_append]
            exact H2.out.2.2.1
          · rw [List.length_append]
            have := H2.out.2.1
            simp
            omega
        case measure => omega
    · have hiN : i = N := by omega
      subst hiN
      have hO : O = [] := by
        rw [← hN, List.drop_length] at hok
        exact List.length_eq_zero_iff.1 hok
      subst hO
      have HC := Lib.hid (And.intro hC hXO)
      clear hC hXO hok hgk
      go_wp2_with fail
      go_ret
      refine ⟨rfl, sv1, ov1, ?_⟩
      have e := HC.out.2
      rw [List.append_nil, List.take_of_length_le (by rw [hN]; exact Nat.le_refl _)] at e
      rw [← e]
      exact HC.out.1
end
end Go.Str

/-
  The console: Screen. What lines make is fine.
-/
namespace Go.Str
open Go.Own Go.RowKit Go.Proofs

section
variable {w0 w w' : World} {c om : Nat} {O X : Bytes} {sv ov : Value}

set_option maxRecDepth 10000 in
set_option maxHeartbeats 1000000 in
theorem screen_calls (h : CI w0 c om O X sv ov w) (hX : X.length ≤ 10000) : Calls Tryz.prog 18 #[pt c] w fun e w' => ∃ v, e = .returned v ∧ SliceAt w' 5 1 v (bcells X) ∧ Turn (fun _ => False) w w' := by
  obtain ⟨lm, fm, hb⟩ := h.cb
  obtain ⟨-, -, -, -, c9, -⟩ := con_cells hb
  have hs := h.s
  obtain ⟨va, vc, rfl, -, -⟩ := bytes_form hs
  simp only [bcells_length] at hs c9
  have HS := Lib.hid (And.intro hs hX)
  clear h hb hs hX
  go_enter Tryz.func18, Tryz.ntmps18
  go_wp2_with (at_builtin; refine wpList_append _ rfl _ _ 30 30 rfl 5 1 1 (.int .u8 0) Tryz.underlying30 (.inr ⟨_, Tryz.underlying30⟩) elemU8 (.slice none 0 0) [] rfl (SliceAt.nil _ _ _) _ _ _ rfl (Src.of_slice HS.out.1) (bcells_one _) (by have := HS.out.2; simp; omega) (by have := HS.out.2; simp; omega) ?_
               intro v' w1 hv' ht hw hn; clear hn; obtain ⟨ra, rn, rc, rfl, -⟩ := hv'.form
               have hF := Lib.hid (And.intro hv' (And.intro ht hw))
               clear hv' ht hw)
  go_ret
  exact ⟨_, rfl, by simpa using hF.out.1, hF.out.2.1.mono fun k _ e => by simp [Value.ownBlock] at e⟩
end

theorem okL_line : ∀ (l : Bytes) (k : Nat) (d : Bytes), (∀ x ∈ l, 32 ≤ x.toNat ∧ x.toNat ≤ 126) → k + l.length ≤ 79 → okL 0 d → okL k (l ++ 10 :: d)
  | [], k, d, _, _, hd => by
    show okL k (10 :: d)
    unfold okL
    rw [if_pos rfl]
    exact hd
  | x :: l, k, d, hl, hk, hd => by
    obtain ⟨h1, h2⟩ := hl x (List.mem_cons_self ..)
    show okL k (x :: (l ++ 10 :: d))
    unfold okL
    have hx : x ≠ 10 := fun e => by rw [e] at h1; exact absurd h1 (by decide)
    rw [if_neg hx]
    refine ⟨h1, h2, ?_, okL_line l (k + 1) d (fun y hy => hl y (List.mem_cons_of_mem _ hy)) ?_ hd⟩
    · rw [List.length_cons] at hk; omega
    · rw [List.length_cons] at hk; omega

/-- The lines, each with its end. -/
def flat (ls : List Bytes) : Bytes := ls.flatMap fun l => l ++ [10]
theorem flat_cons (l : Bytes) (ls : List Bytes) : flat (l :: ls) = l ++ 10 :: flat ls := by simp [flat]
theorem flat_snoc (ls : List Bytes) (l : Bytes) : flat (ls ++ [l]) = flat ls ++ (l ++ [10]) := by simp [flat]
theorem flat_ok : ∀ (ls : List Bytes), (∀ l ∈ ls, l.length ≤ 79 ∧ ∀ x ∈ l, 32 ≤ x.toNat ∧ x.toNat ≤ 126) → okL 0 (flat ls)
  | [], _ => rfl
  | l :: ls, h => by
    rw [flat_cons]
    obtain ⟨h1, h2⟩ := h l (List.mem_cons_self ..)
    exact okL_line l 0 _ h2 (by omega) (flat_ok ls fun y hy => h y (List.mem_cons_of_mem _ hy))
end Go.Str
