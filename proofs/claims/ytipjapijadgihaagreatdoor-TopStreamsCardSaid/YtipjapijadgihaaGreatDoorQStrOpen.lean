/-
  Open, walked: by what Resolve and open do.
-/
import Derived.StillTailTactics
import Derived.Test.YtipjapijadgihaaGreatDoorQStrPipe
set_option linter.unusedVariables false

namespace Go.Str
open Go.Own Go.RowKit Go.Proofs

section
variable {g g' : Gh} {S : SS} {w w' : World}

/-- A handle goes into the map. -/
theorem Rep.insert (h : Rep g S w) {x : Hd} {i : Int} (hi : i = (S.last : Int) + 1) (ht2 : g.ρ (g.hb i) = (2, i)) (hx : HdAt g w i x) (hen : ∀ name r, x = .en name r → ∃ y, S.pipes name = some y)
    (ht : Turn (fun k => k = g.s ∨ k = g.hm) w w') (hsb : w'.heap[g.s]? = some (.cells #[.map (some g.fm), .map (some g.pm), .map (some g.am), .map (some g.hm), .int .i64 (S.last + 1 : Nat)] 80 (0, 0)))
    (hm : MapS w' g.hm (upd (kh g S.handles) i (some (hval g i x)))) : Rep g { S with handles := upd S.handles i (some x), last := S.last + 1 } w' ∧ Step g g w w' := by
  have hs : Same g g w w' (fun t => t = (1, 0) ∨ t = (1, 4)) := ⟨fun k hk hd => ht.block k hk (fun e => hd (by rcases e with rfl | rfl; exact .inl h.base.ts; exact .inr h.base.th)), fun _ _ _ => rfl⟩
  have hz := ht.size
  have hb0 := hs.blk 0 h.base.env_lt (by have := h.base.e0; intro e; rcases e with e | e <;> rw [e] at this <;> cases this)
  refine ⟨⟨⟨hsb, h.base.ts, h.base.tf, h.base.tp, h.base.ta, h.base.th, fun k hk => h.base.fresh k (by omega), ?_, h.base.e0⟩, h.files.same hs h.base.tf (by simp) (by simp) rfl rfl, h.pipes.same hs h.base.tp (by simp) (by simp) (by simp) rfl rfl,
    assigns_same h.assigns hs h.base.ta (by simp) rfl, ⟨?_, fun j y hy => ?_⟩, fun j nm r hj => ?_⟩, ⟨ht.mono fun k _ e => by rcases e with rfl | rfl; rw [h.base.ts]; decide; rw [h.base.th]; decide, fun _ _ => Iff.rfl, rfl⟩⟩
  · obtain ⟨m, hm⟩ := h.base.env
    exact ⟨m, by rw [← hm]; simp only [World.cell?, hb0]⟩
  · have : kh g (upd S.handles i (some x)) = upd (kh g S.handles) i (some (hval g i x)) := by
      funext j
      unfold kh
      by_cases e : j = i
      · subst e; rw [upd_self, upd_self]; rfl
      · rw [upd_ne _ _ e, upd_ne _ _ e]
    rw [this]
    exact hm
  · have hy' : upd S.handles i (some x) j = some y := hy
    by_cases e : j = i
    · subst e
      rw [upd_self] at hy'
      cases hy'
      refine ⟨ht2, hx.same hs ht2 (by simp) (by simp) (by simp) rfl (fun _ _ _ => rfl), by omega, ?_⟩
      show j ≤ ((S.last + 1 : Nat) : Int)
      omega
    · rw [upd_ne _ _ e] at hy'
      obtain ⟨a1, a2, a3, a4⟩ := h.handles.hd j y hy'
      refine ⟨a1, a2.same hs a1 (by simp) (by simp) (by simp) rfl (fun _ _ _ => rfl), a3, ?_⟩
      show j ≤ ((S.last + 1 : Nat) : Int)
      omega
  · have hj' : upd S.handles i (some x) j = some (.en nm r) := hj
    by_cases e : j = i
    · subst e
      rw [upd_self] at hj'
      exact hen nm r (Option.some.inj hj')
    · rw [upd_ne _ _ e] at hj'
      exact h.ends j nm r hj'

def HandPost (g : Gh) (S' : SS) (i : Int) (w : World) (e : Ending) (w' : World) : Prop :=
  e = .returned (.tuple #[.int .i64 i, .int .i64 0]) ∧ ∃ g', Rep g' S' w' ∧ Step g g' w w'

theorem Rep.len_handles (h : Rep g S w) : mapLen w g.hm ≤ S.last := by
  have := h.handles.m.len_le ((List.range S.last).map fun (i : Nat) => (i : Int) + 1) (fun k hk => by
    unfold kh at hk
    cases hh : S.handles k with
    | none => rw [hh] at hk; cases hk
    | some x =>
      obtain ⟨-, -, h1, h2⟩ := h.handles.hd k x hh
      refine List.mem_map.2 ⟨(k - 1).toNat, List.mem_range.2 (by omega), by omega⟩)
  simpa using this

set_option maxRecDepth 10000 in
set_option maxHeartbeats 4000000 in
theorem open_gen (h : Rep g S w) {sb : Nat} (hs : g.s = sb) {name to_ : Bytes} {m : Int} (hm : m = 0 ∨ m = 1) {P' : Bytes → Option Pp} {x : Hd} (hl : S.last ≤ 18) (hto : to_ ≠ [114, 97, 109, 58])
    (hres : Calls Tryz.prog 32 #[pt sb, .string (bs name)] w fun e w' => e = .returned (.tuple #[.string (bs to_), .int .i64 0]) ∧ Turn (fun _ => False) w w')
    (hop : ∀ w1, Turn (fun _ => False) w w1 → Calls Tryz.prog 35 #[pt sb, .string (bs to_), .int .i64 m] w1 (OpenPost g { S with pipes := P' } ((S.last : Int) + 1) x w1)) (hen : ∀ name r, x = .en name r → ∃ y, P' name = some y) :
    Calls Tryz.prog 9 #[pt sb, .string (bs name), .int .i64 m] w (HandPost g { S with pipes := P', handles := upd S.handles ((S.last : Int) + 1) (some x), last := S.last + 1 } ((S.last : Int) + 1) w) := by
  have q0 : (to_ == [114, 97, 109, 58]) = false := beq_eq_false_iff_ne.2 hto
  have hbt := bs_toList to_
  have H := Lib.hid (And.intro h (And.intro hres (And.intro hop (And.intro hen hs))))
  have hm0 : decide (m < 0) = false := decide_eq_false (by omega)
  have hm2 : decide (2 < m) = false := decide_eq_false (by omega)
  have hm3 : (m == 2) = false := beq_eq_false_iff_ne.2 (by omega)
  clear hto hres hop h hen hm
  go_enter Tryz.func9, Tryz.ntmps9
  go_wp2_with fail
  refine H.out.2.1.mono ?_
  rintro e1 w1 ⟨rfl, T1⟩
  have HT := Lib.hid T1
  clear T1
  go_wp2_with fail
  refine (ready_calls (H.out.1.new HT.out) H.out.2.2.2.2).mono ?_
  rintro e2 w2 ⟨rfl, rfl⟩
  have R1 := H.out.1.new HT.out
  obtain ⟨-, -, -, c3, c4, cf⟩ := s_cells R1.base.sb
  rw [H.out.2.2.2.2] at c3 c4 cf
  have hlen := R1.len_handles
  obtain ⟨n, hn⟩ : ∃ n, mapLen w2 g.hm = n := ⟨_, rfl⟩
  rw [hn] at hlen
  have HN := Lib.hid hn
  have HM := Lib.hid (And.intro R1.handles.m hn)
  clear R1 hn
  have hn20 : ((n : Int) == 20) = false := beq_eq_false_iff_ne.2 (by omega)
  have hn20' : (n = 20) = False := eq_false (by omega)
  go_wp2_with (refine wpList_lenS rfl _ rfl Tryz.underlying78 rfl HM.out.1 ?_; rw [HM.out.2])
  refine (H.out.2.2.1 _ HT.out).mono ?_
  rintro e3 w3 ⟨g3, rfl, R3, t3, hx3, S3⟩
  have hs3 : g3.s = sb := S3.s.trans H.out.2.2.2.2
  obtain ⟨-, -, -, f3, f4, ff⟩ := s_cells R3.base.sb
  rw [hs3] at f3 f4 ff
  dsimp only at f4
  have hb3 := R3.base.sb
  rw [hs3] at hb3
  dsimp only at hb3
  obtain ⟨L, hL⟩ : ∃ L, S.last + 1 = L := ⟨_, rfl⟩
  have hLz : ((S.last : Nat) : Int) + 1 = (L : Int) := by omega
  have hwl : IntKind.i64.wrap ((S.last : Int) + 1) = (L : Int) := by rw [IntWalk.i64_in _ (by omega)]; exact hLz
  obtain ⟨w4, hw4⟩ : ∃ w4, w3.setCell ⟨sb, 4, none⟩ (.int .i64 L) = w4 := ⟨_, rfl⟩
  have hb4 : w4.heap[sb]? = some (.cells #[.map (some g3.fm), .map (some g3.pm), .map (some g3.am), .map (some g3.hm), .int .i64 L] 80 (0, 0)) := by rw [← hw4]; exact heap_setCell_self _ hb3
  have T4 : Turn (fun k => k = sb) w3 w4 := by rw [← hw4]; exact (Turn.refl (fun k => k = sb) w3).setCell (p := ⟨sb, 4, none⟩) (fun _ => rfl) _
  have k3 : w4.cell? ⟨sb, 3, none⟩ = some (.map (some g3.hm)) := cell_at hb4 rfl
  have k4 : w4.cell? ⟨sb, 4, none⟩ = some (.int .i64 L) := cell_at hb4 rfl
  have hM4 : MapS w4 g3.hm (kh g3 S.handles) := by
    have hm := R3.handles.m
    refine hm.keep (T4.block _ hm.lt (fun e => ?_))
    have t1 := R3.base.th
    have t2 := R3.base.ts
    rw [e, ← hs3, t2] at t1
    cases t1
  have hL2 : L ≤ 19 := by omega
  have H3 := Lib.hid (And.intro R3 (And.intro t3 (And.intro hx3 (And.intro S3 (And.intro hs3 (And.intro hb4 (And.intro T4 (And.intro hM4 (And.intro hL hLz)))))))))
  have HW4 := Lib.hid hw4
  clear R3 t3 hx3 S3 hs3 hb3 hb4 T4 hM4 hL hw4 c3 c4 cf hlen hn20 hn20' hLz
  go_upto_region 20 with fail
  rw [HW4.out]
  clear HW4 f3 f4 ff
  go_still_tail 9, (by kernel_rfl)
  change wpList _ _ _ _ _ w4.drew
  have hM5 : MapS w4.drew g3.hm (kh g3 S.handles) := H3.out.2.2.2.2.2.2.2.1.keep rfl
  refine wpList_updateS rfl _ _ _ rfl Tryz.underlying3 Tryz.underlying78 rfl hM5 rfl (wf_i64 (by omega) (by omega)) rfl ?_
  intro w5 hM6 ht6 hs6
  have hlt := heap_lt H3.out.2.2.2.2.2.1
  have hne : sb ≠ g3.hm := fun e => by
    have t1 := H3.out.1.base.th
    have t2 := H3.out.1.base.ts
    rw [← e, ← H3.out.2.2.2.2.1, t2] at t1
    cases t1
  have hb5 : w5.heap[sb]? = some (.cells #[.map (some g3.fm), .map (some g3.pm), .map (some g3.am), .map (some g3.hm), .int .i64 L] 80 (0, 0)) := by
    rw [ht6.block sb hlt hne]
    exact H3.out.2.2.2.2.2.1
  have k5 : w5.cell? ⟨sb, 4, none⟩ = some (.int .i64 L) := cell_at hb5 rfl
  have T5 : Turn (fun k => k = g3.s ∨ k = g3.hm) w3 w5 := by
    refine ((H3.out.2.2.2.2.2.2.1.drew).mono fun k _ e => .inl (by rw [e, H3.out.2.2.2.2.1])).trans (ht6.mono fun k _ e => .inr e)
  have hI := H3.out.1.insert (i := (S.last : Int) + 1) rfl H3.out.2.1 H3.out.2.2.1 H.out.2.2.2.1 T5 (by rw [H3.out.2.2.2.2.1]; have := H3.out.2.2.2.2.2.2.2.2.1; dsimp only; rw [this]; exact hb5) (by have := H3.out.2.2.2.2.2.2.2.2.2; rw [this]; rw [this] at hM6; exact hM6)
  have HF := Lib.hid hI
  clear hI hM5 hM6 ht6 hs6 T5 hb5 k3 k4
  go_wp2_with fail
  go_ret2
  have hLz := H3.out.2.2.2.2.2.2.2.2.2
  refine ⟨by rw [hLz]; rfl, g3, HF.out.1, ((Step.fresh g HT.out).trans H3.out.2.2.2.1).trans HF.out.2⟩
end
end Go.Str
