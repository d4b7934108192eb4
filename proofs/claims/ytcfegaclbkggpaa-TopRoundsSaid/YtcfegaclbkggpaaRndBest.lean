/-
  best, walked.
-/
import Derived.Test.YtcfegaclbkggpaaRndTasks
namespace Go.Rnd
open Go.Own Go.RowKit Go.Proofs

section
variable {g : Gh} {K : KS} {w w' : World}

/-- The best of the first k tasks of the row. -/
def BestIn (l : List TR) (k : Nat) (bi : Nat) (bp : Int) : Prop :=
  (bi = 0 ∧ bp = 0 ∧ ∀ x ∈ l.take k, x.wt = true) ∨ (∃ x ∈ l.take k, bi = x.i ∧ bp = x.pri ∧ x.wt = false ∧ ∀ y ∈ l.take k, y.wt = false → y.pri ≤ x.pri)

theorem take_mem {l : List TR} {k : Nat} {x y : TR} (hx : l[k]? = some x) (hy : y ∈ l.take (k + 1)) : y ∈ l.take k ∨ y = x := by
  rw [List.take_add_one, hx] at hy
  simpa using hy
theorem mem_take {l : List TR} {k : Nat} {y : TR} (hy : y ∈ l.take k) : y ∈ l.take (k + 1) := by
  rw [List.take_add_one]
  exact List.mem_append_left _ hy
theorem mem_take_self {l : List TR} {k : Nat} {x : TR} (hx : l[k]? = some x) : x ∈ l.take (k + 1) := by
  rw [List.take_add_one, hx]
  simp

theorem BestIn.skip {l : List TR} {k bi : Nat} {bp : Int} {x : TR} (h : BestIn l k bi bp) (hx : l[k]? = some x) (hw : x.wt = true) : BestIn l (k + 1) bi bp := by
  rcases h with ⟨h1, h2, h3⟩ | ⟨z, z1, z2, z3, z4, z5⟩
  · refine .inl ⟨h1, h2, fun y hy => ?_⟩
    rcases take_mem hx hy with hy | rfl
    · exact h3 y hy
    · exact hw
  · refine .inr ⟨z, mem_take z1, z2, z3, z4, fun y hy hyw => ?_⟩
    rcases take_mem hx hy with hy | rfl
    · exact z5 y hy hyw
    · rw [hw] at hyw; cases hyw
theorem BestIn.less {l : List TR} {k bi : Nat} {bp : Int} {x : TR} (h : BestIn l k bi bp) (hx : l[k]? = some x) (hp : ¬ bp < x.pri) (h1 : 1 ≤ x.pri) : BestIn l (k + 1) bi bp := by
  rcases h with ⟨h1', h2, h3⟩ | ⟨z, z1, z2, z3, z4, z5⟩
  · omega
  · refine .inr ⟨z, mem_take z1, z2, z3, z4, fun y hy hyw => ?_⟩
    rcases take_mem hx hy with hy | rfl
    · exact z5 y hy hyw
    · omega
theorem BestIn.more {l : List TR} {k bi : Nat} {bp : Int} {x : TR} (h : BestIn l k bi bp) (hx : l[k]? = some x) (hw : x.wt = false) (hp : bp < x.pri) : BestIn l (k + 1) x.i x.pri := by
  refine .inr ⟨x, mem_take_self hx, rfl, rfl, hw, fun y hy hyw => ?_⟩
  rcases take_mem hx hy with hy | rfl
  · rcases h with ⟨h1', h2, h3⟩ | ⟨z, z1, z2, z3, z4, z5⟩
    · rw [h3 y hy] at hyw; cases hyw
    · have := z5 y hy hyw
      omega
  · exact Int.le_refl _

theorem BestIn.best {l : List TR} {bi : Nat} {bp : Int} (h : BestIn l l.length bi bp) (hall : ∀ x ∈ l, 1 ≤ x.i ∧ x.i ≤ K.n ∧ x.pri = (K.ts x.i).pri ∧ x.wt = (K.ts x.i).wt) (hcov : ∀ i, 1 ≤ i → i ≤ K.n → ∃ x ∈ l, x.i = i) : K.Best bi := by
  unfold BestIn at h
  rw [List.take_length] at h
  rcases h with ⟨h1, h2, h3⟩ | ⟨z, z1, z2, z3, z4, z5⟩
  · refine .inl ⟨h1, fun i i1 i2 => ?_⟩
    obtain ⟨x, hx, rfl⟩ := hcov i i1 i2
    rw [← (hall x hx).2.2.2]
    exact h3 x hx
  · obtain ⟨a1, a2, a3, a4⟩ := hall z z1
    subst z2
    refine .inr ⟨a1, a2, by rw [← a4]; exact z4, fun i i1 i2 hw => ?_⟩
    obtain ⟨x, hx, rfl⟩ := hcov i i1 i2
    obtain ⟨b1, b2, b3, b4⟩ := hall x hx
    rw [← b3, ← a3]
    exact z5 x hx (by rw [b4]; exact hw)

set_option maxRecDepth 10000 in
set_option maxHeartbeats 2000000 in
theorem best_calls (h : Rep g K w) (ok : K.Ok) (hn : K.n ≤ 100) (hn1 : 1 ≤ K.n) (hl : ∀ i, 1 ≤ i → i ≤ K.n → (K.ts i).q.length ≤ 1000) {kb : Nat} (hk : g.k = kb) :
    Calls Try.prog 7 #[pt kb] w fun e w' => e = .returned (.bool true) ∧ Turn (fun _ => False) w w' := by
  have HT := Lib.hid (tasks_calls h hn hn1 hl hk)
  have H := Lib.hid (And.intro h (And.intro ok (And.intro hk (And.intro hn hn1))))
  clear h ok hk hn hl hn1
  go_enter Try.func7, Try.ntmps7
  go_wp2_with fail
  refine HT.out.mono ?_
  rintro e1 w1 ⟨v, l, rfl, hs, T1, hnd, hall, hcov⟩
  obtain ⟨x1, hx1, -⟩ := hcov 1 (Nat.le_refl _) H.out.2.2.2.2
  have hlen : l.length ≤ 100 := by
    have := nodup_small K.n (l.map TR.i) hnd (fun x hx => by
      obtain ⟨y, hy, rfl⟩ := List.mem_map.1 hx
      have := hall y hy
      exact ⟨this.1, this.2.1⟩)
    rw [List.length_map] at this
    have := H.out.2.2.2.1
    omega
  have hne : 0 < l.length := List.length_pos_of_mem hx1
  obtain ⟨va, vn, vc, rfl, hvl, -⟩ := hs.form
  rw [tcells_length] at hvl
  obtain rfl : vn = l.length := by omega
  obtain ⟨B, off, rfl⟩ := hs.addr hne
  have HS := Lib.hid (And.intro hs (And.intro T1 (And.intro hall (And.intro hcov hlen))))
  clear hs T1 hnd hall hcov hlen hx1 hne hvl HT
  obtain ⟨N, hN⟩ : ∃ N, l.length = N := ⟨_, rfl⟩
  rw [hN]
  have HN := Lib.hid hN
  clear hN
  go_wp2_with fail
  go_loopg [4, 5, 6] (N) (fun gk iv pv kv wr => ∃ (k bi : Nat) (bp : Int), gk + k = N ∧ kv = .int .i64 k ∧ iv = .int .i64 bi ∧ pv = .int .i64 bp ∧ BestIn l k bi bp ∧ Turn (fun _ => False) w1 wr)
  case atStart => exact ⟨0, 0, 0, rfl, rfl, rfl, rfl, .inl ⟨rfl, rfl, by simp⟩, Turn.refl _ _⟩
  case round =>
    obtain ⟨k, bi, bp, hk, rfl, rfl, rfl, hb, hT⟩ := hrel
    have HX := Lib.hid (And.intro hb (And.intro hT hk))
    clear hb hT
    by_cases hlt : k < N
    · obtain ⟨x, hx⟩ : ∃ x, l[k]? = some x := ⟨_, List.getElem?_eq_getElem (by have := HN.out; omega)⟩
      have hkl : k < l.length := by have := HN.out; omega
      have hc : ∀ c, c < 7 → wr.cell? ⟨B, off + k * 7 + c, none⟩ = some ((encT x)[c]!) := fun c hc => by
        have hs := HS.out.1.turn HX.out.2.1 (fun _ _ e => e)
        have e1 : (k * 7 + c) / 7 = k := by omega
        have e2 : (k * 7 + c) % 7 = c := by omega
        have := hs.cells (k * 7 + c) _ (tcells_get l (k * 7 + c) (by omega))
        rw [e1, e2, ← Nat.add_assoc] at this
        rw [this]
        congr 2
        rw [getElem!_pos l k hkl]
        rw [List.getElem?_eq_getElem hkl] at hx
        rw [Option.some.inj hx]
      have c0 : wr.cell? ⟨B, off + k * 7, none⟩ = some (.int .i64 x.i) := hc 0 (by omega)
      have c1 : wr.cell? ⟨B, off + k * 7 + 1, none⟩ = some (.int .i64 x.pri) := hc 1 (by omega)
      have c2 : wr.cell? ⟨B, off + k * 7 + 2, none⟩ = some (.bool false) := hc 2 (by omega)
      have c3 : wr.cell? ⟨B, off + k * 7 + 3, none⟩ = some (.bool x.wt) := hc 3 (by omega)
      have q1 : decide ((k : Int) < (N : Int)) = true := decide_eq_true (by omega)
      have q2 : decide ((N : Int) ≤ (k : Int)) = false := decide_eq_false (by omega)
      have q3 : decide (N ≤ k) = false := decide_eq_false (by omega)
      have HQ := Lib.hid (And.intro hx hkl)
      have hxpri : 1 ≤ x.pri := by
        have hm : x ∈ l := List.mem_of_getElem? hx
        obtain ⟨b1, b2, b3, b4⟩ := HS.out.2.2.1 x hm
        rw [b3]
        exact (H.out.2.1.pos x.i b1 b2).1
      have HP := Lib.hid hxpri
      have hk100 : k ≤ 100 := by have := HS.out.2.2.2.2; omega
      clear hx hc hkl hxpri
      generalize hG : gk = GK at *
      clear hG
      have HK := Lib.hid hk
      clear hk
      cases hw : x.wt with
      | true =>
        rw [hw] at c3
        have HW := Lib.hid hw
        clear hw
        go_wp2_with fail
        go_roundg (GK - 1)
        case measure => have := HK.out; omega
        case rel => exact ⟨k + 1, bi, bp, by have := HK.out; omega, by go_num, rfl, rfl, HX.out.1.skip HQ.out.1 HW.out, HX.out.2.1⟩
      | false =>
        rw [hw] at c3
        have HW := Lib.hid hw
        clear hw
        by_cases hp : bp < x.pri
        · have q4 : decide (bp < x.pri) = true := decide_eq_true hp
          have HPP := Lib.hid hp
          clear hp
          go_upto_region 7 with fail
          go_quiet (fail)
          go_wp2_with fail
          go_roundg (GK - 1)
          case measure => have := HK.out; omega
          case rel => exact ⟨k + 1, x.i, x.pri, by have := HK.out; omega, by go_num, rfl, rfl, HX.out.1.more HQ.out.1 HW.out HPP.out, ⟨HX.out.2.1.os, HX.out.2.1.tape, HX.out.2.1.output, HX.out.2.1.size, HX.out.2.1.block⟩⟩
        · have q4 : decide (bp < x.pri) = false := decide_eq_false hp
          have HPP := Lib.hid hp
          clear hp
          go_wp2_with fail
          go_roundg (GK - 1)
          case measure => have := HK.out; omega
          case rel => exact ⟨k + 1, bi, bp, by have := HK.out; omega, by go_num, rfl, rfl, HX.out.1.less HQ.out.1 (by have := HPP.out; omega) HP.out, HX.out.2.1⟩
    · obtain rfl : k = N := by omega
      have q1 : decide ((k : Int) < (k : Int)) = false := decide_eq_false (by omega)
      have HR := Lib.hid (H.out.1.new (HS.out.2.1.trans HX.out.2.1))
      have HC := Lib.hid (running_calls HR.out H.out.2.1 H.out.2.2.1)
      go_wp2_with fail
      refine HC.out.mono ?_
      rintro e2 w2 ⟨t, rfl, hbt, T2⟩
      have hbi : K.Best bi := by
        have h1 := HX.out.1
        have h2 := HN.out
        rw [← h2] at h1
        exact h1.best HS.out.2.2.1 HS.out.2.2.2.1
      obtain rfl := KS.Best.unique H.out.2.1 hbt hbi
      have HF := Lib.hid T2
      clear hbt hbi T2
      go_wp2_with fail
      go_ret
      exact ⟨by simp, (HS.out.2.1.trans HX.out.2.1).trans HF.out⟩
end
end Go.Rnd
