/-
  find: the place that leads to a name.
-/
import Derived.Test.YtipjapijadgihaaGreatDoorQFlrPoint
set_option linter.unusedVariables false

namespace Go.Flr
open Go.Own Go.RowKit Go.Proofs

/-- A chain: what the number at a place leads to, and so on. -/
def ChainD (D : List Bytes) : Nat → Nat → List Nat → Prop
  | b, a, [] => numAt (atD D b) a = 0
  | b, a, k :: r => numAt (atD D b) a = k ∧ k ≠ 0 ∧ k < D.length ∧ ChainD D k 6 r
/-- Where the first entry of a name is led to. -/
def findP (D : List Bytes) (name : Bytes) : Nat → Nat → List Nat → Nat × Nat
  | b, a, [] => (b, a)
  | b, a, k :: r => if nameOf (atD D k) = name then (b, a) else findP D name k 6 r

section
variable {w0 w w' w1 : World} {d g : Nat} {D : List Bytes} {L : List (Nat × Bytes)} {lv : Value}

def FindI (w0 : World) (d g : Nat) (D : List Bytes) (L : List (Nat × Bytes)) (lv : Value) (w : World) (name : Bytes) (P : Nat × Nat) (q gk : Nat) (kv : Value) (wr : World) : Prop :=
  ∃ b a rest, gk = rest.length ∧ b < D.length ∧ a ≤ 126 ∧ ChainD D b a rest ∧ kv = .int .i64 (numAt (atD D b) a : Nat) ∧ findP D name b a rest = P ∧
    wr.heap[q + 1]? = some (.cells #[.int .i64 (b : Nat), .int .i64 (a : Nat)] 137 (0, 0)) ∧ wr.heap[q]? = some (.cells #[.int .i64 0, .int .i64 0] 137 (0, 0)) ∧ DI w0 d g D L lv wr ∧ Turn (fun _ => False) w wr

set_option maxRecDepth 10000 in
set_option maxHeartbeats 4000000 in
theorem find_calls (h : DI w0 d g D L lv w) {dir : Nat} {name : Bytes} {ks : List Nat} (hd : dir < D.length) (hn : name.length ≤ 1000) (hc : ChainD D dir (35 + 2 * chainN name) ks) :
    Calls Tryz.prog 94 #[pt d, .int .i64 dir, .string (bs name)] w fun e w' => e = .returned (plc (findP D name dir (35 + 2 * chainN name) ks).1 (findP D name dir (35 + 2 * chainN name) ks).2) ∧ Turn (fun _ => False) w w' := by
  have hcl := chainN_lt name
  obtain ⟨a0, ha0⟩ : ∃ a0, 35 + 2 * chainN name = a0 := ⟨_, rfl⟩
  rw [ha0] at hc ⊢
  obtain ⟨P, hP⟩ : ∃ P, findP D name dir a0 ks = P := ⟨_, rfl⟩
  rw [hP]
  obtain ⟨q, hq⟩ : ∃ q, w.heap.size = q := ⟨_, rfl⟩
  obtain ⟨W1, hW1⟩ : ∃ W1, w.alloc (.cells #[.int .i64 0, .int .i64 0] 137) = W1 := ⟨_, rfl⟩
  have HCA : Calls Tryz.prog 130 #[.string (bs name)] W1 fun e w' => e = .returned (.int .i64 (a0 : Nat)) ∧ w' = W1 := by rw [← ha0]; exact chainAt_calls name hn
  have HC1 := Lib.hid HCA
  have H := Lib.hid (And.intro h (And.intro hd (And.intro hc (And.intro ha0 (And.intro hcl (And.intro hq (And.intro hW1 hP)))))))
  clear HCA h hd hc ha0 hcl hP
  go_enter Tryz.func94, Tryz.ntmps94
  go_upto_region 1 with fail
  clear hW1 hq
  go_upto_region 2 with (refine HC1.out.mono ?_; rintro e1 w1 ⟨rfl, rfl⟩)
  have hz : w1.heap.size = q + 1 := by rw [← H.out.2.2.2.2.2.2.1, ← H.out.2.2.2.2.2.1]; simp
  rw [hz]
  obtain ⟨W2, hW2⟩ : ∃ W2, w1.alloc (.cells #[.int .i64 (dir : Nat), .int .i64 (a0 : Nat)] 137) = W2 := ⟨_, rfl⟩
  rw [hW2]
  have T2 : Turn (fun _ => False) w W2 := by rw [← hW2, ← H.out.2.2.2.2.2.2.1]; exact ((Turn.refl _ w).alloc _).alloc _
  have hp1 : W2.heap[q + 1]? = some (.cells #[.int .i64 (dir : Nat), .int .i64 (a0 : Nat)] 137 (0, 0)) := by rw [← hW2, ← hz]; exact heap_alloc_new w1 _
  have hp0 : W2.heap[q]? = some (.cells #[.int .i64 0, .int .i64 0] 137 (0, 0)) := by
    rw [← hW2, heap_alloc_lt w1 _ q (by omega), ← H.out.2.2.2.2.2.2.1, ← H.out.2.2.2.2.2.1]
    exact heap_alloc_new w _
  have hD2 := H.out.1.new T2
  have x0 : W2.cell? ⟨q + 1, 0, none⟩ = some (.int .i64 (dir : Nat)) := cell_at hp1 rfl
  have x1 : W2.cell? ⟨q + 1, 1, none⟩ = some (.int .i64 (a0 : Nat)) := cell_at hp1 rfl
  have HL := Lib.hid (lead_calls hD2 (pb := dir) (pa := a0) H.out.2.1 (by have := H.out.2.2.2.1; have := H.out.2.2.2.2.1; omega))
  have H2 := Lib.hid (And.intro T2 (And.intro hp1 (And.intro hp0 hD2)))
  clear T2 hp1 hp0 hD2 hW2 hz
  go_wp2_with fail
  refine HL.out.mono ?_
  rintro e2 w2 ⟨rfl, T3⟩
  obtain ⟨N, hN⟩ : ∃ N, ks.length = N := ⟨_, rfl⟩
  obtain ⟨k0, hk0⟩ : ∃ k0, numAt (atD D dir) a0 = k0 := ⟨_, rfl⟩
  rw [hk0]
  have HI := Lib.hid (show FindI w0 d g D L lv w name P q N (.int .i64 (k0 : Nat)) w2 from
    ⟨dir, a0, ks, hN.symm, H.out.2.1, by have := H.out.2.2.2.1; have := H.out.2.2.2.2.1; omega, H.out.2.2.1, by rw [hk0], H.out.2.2.2.2.2.2.2,
      (T3.block _ (heap_lt H2.out.2.1) (fun e => e)).trans H2.out.2.1, (T3.block _ (heap_lt H2.out.2.2.1) (fun e => e)).trans H2.out.2.2.1, H2.out.2.2.2.new T3, H2.out.1.trans T3⟩)
  clear T3 x0 x1 hN hk0 HL H2
  have HH := Lib.hid (And.intro H.out.1 (And.intro H.out.2.2.2.2.2.1 hn))
  clear H hn
  go_wp2_with fail
  go_loopg [8] (N) (fun gk kv wr => FindI w0 d g D L lv w name P q gk kv wr)
  case atStart => exact HI.out
  case round =>
    obtain ⟨b, a, rest, hgk, hb, ha, hch, rfl, hf, hp1, hp0, hD, hT⟩ := hrel
    cases rest with
    | nil =>
      obtain ⟨z, hz⟩ : ∃ z, numAt (atD D b) a = z := ⟨_, rfl⟩
      have hz0 : z = 0 := by rw [← hz]; exact hch
      subst hz0
      rw [hz]
      have y0 : wr.cell? ⟨q + 1, 0, none⟩ = some (.int .i64 (b : Nat)) := cell_at hp1 rfl
      have y1 : wr.cell? ⟨q + 1, 1, none⟩ = some (.int .i64 (a : Nat)) := cell_at hp1 rfl
      have z0 : wr.cell? ⟨q, 0, none⟩ = some (.int .i64 0) := cell_at hp0 rfl
      have z1 : wr.cell? ⟨q, 1, none⟩ = some (.int .i64 0) := cell_at hp0 rfl
      have zf : ∀ i, wr.frozen? ⟨q, i, none⟩ = false := fun i => frozen_at hp0
      have zf0 := zf 0
      have zf1 := zf 1
      have HM := Lib.hid (And.intro hT (And.intro hf hp0))
      clear hT hf hp1 hp0 hD hch hz zf hgk
      go_wp2_with fail
      have hset0 := heap_setCell_self (i := 0) (.int .i64 (b : Nat)) HM.out.2.2
      have hset1 := heap_setCell_self (i := 1) (.int .i64 (a : Nat)) hset0
      have hfP : P = (b, a) := HM.out.2.1.symm
      refine bodyPost_ret (v := plc b a) (results_cell_row rfl _ _ q _ _ _ _ rfl hset1 Tryz.underlying137 rfl (by kernel_rfl)) rfl ⟨by rw [hfP], ?_⟩
      have hq := HH.out.2.1
      exact (HM.out.1.setCell (fun (hlt : q < w.heap.size) => by omega) _).setCell (fun (hlt : q < w.heap.size) => by omega) _
    | cons k rest =>
      obtain ⟨h1, h2, h3, h4⟩ := hch
      rw [h1]
      have q1 : ((k : Int) != 0) = true := by simp; omega
      obtain ⟨n, hn⟩ : ∃ n, D.length = n := ⟨_, rfl⟩
      have hdb := hD.db
      rw [hn] at hdb
      obtain ⟨c0, -, -, -, -⟩ := disk_cells hdb
      have hkn : k < n := by omega
      have HNm := Lib.hid (name_calls (hD.range h3) (hD.len.at k))
      have HM := Lib.hid (And.intro hT (And.intro hf (And.intro hp0 (And.intro hp1 (And.intro hD (And.intro h3 (And.intro h4 hgk)))))))
      clear hT hf hp0 hp1 hD h3 h4 hgk hdb hn h1 h2
      by_cases hnm : nameOf (atD D k) = name
      · rw [hnm] at HNm
        go_wp2_with fail
        refine HNm.out.mono ?_
        rintro e4 w4 ⟨rfl, n4, rfl⟩
        have y0 : (wr.drewN n4).cell? ⟨q + 1, 0, none⟩ = some (.int .i64 (b : Nat)) := cell_at HM.out.2.2.2.1 rfl
        have y1 : (wr.drewN n4).cell? ⟨q + 1, 1, none⟩ = some (.int .i64 (a : Nat)) := cell_at HM.out.2.2.2.1 rfl
        have z0 : (wr.drewN n4).cell? ⟨q, 0, none⟩ = some (.int .i64 0) := cell_at HM.out.2.2.1 rfl
        have z1 : (wr.drewN n4).cell? ⟨q, 1, none⟩ = some (.int .i64 0) := cell_at HM.out.2.2.1 rfl
        have zf0 : (wr.drewN n4).frozen? ⟨q, 0, none⟩ = false := frozen_at HM.out.2.2.1
        have zf1 : (wr.drewN n4).frozen? ⟨q, 1, none⟩ = false := frozen_at HM.out.2.2.1
        have HNM := Lib.hid hnm
        clear hnm q1 c0
        go_wp2_with fail
        have hset0 := heap_setCell_self (w := wr.drewN n4) (i := 0) (.int .i64 (b : Nat)) HM.out.2.2.1
        have hset1 := heap_setCell_self (i := 1) (.int .i64 (a : Nat)) hset0
        have hfP : P = (b, a) := by rw [← HM.out.2.1]; unfold findP; rw [if_pos HNM.out]
        refine bodyPost_ret (v := plc b a) (results_cell_row rfl _ _ q _ _ _ _ rfl hset1 Tryz.underlying137 rfl (by kernel_rfl)) rfl ⟨by rw [hfP], ?_⟩
        have hq := HH.out.2.1
        exact ((turn_drewN HM.out.1 n4).setCell (fun (hlt : q < w.heap.size) => by omega) _).setCell (fun (hlt : q < w.heap.size) => by omega) _
      · go_wp2_with fail
        refine HNm.out.mono ?_
        rintro e4 w4 ⟨rfl, n4, rfl⟩
        have y0 : (wr.drewN n4).cell? ⟨q + 1, 0, none⟩ = some (.int .i64 (b : Nat)) := cell_at HM.out.2.2.2.1 rfl
        have y1 : (wr.drewN n4).cell? ⟨q + 1, 1, none⟩ = some (.int .i64 (a : Nat)) := cell_at HM.out.2.2.2.1 rfl
        have zf0 : (wr.drewN n4).frozen? ⟨q + 1, 0, none⟩ = false := frozen_at HM.out.2.2.2.1
        have zf1 : (wr.drewN n4).frozen? ⟨q + 1, 1, none⟩ = false := frozen_at HM.out.2.2.2.1
        have HNM := Lib.hid hnm
        have hbn : ¬ bs (nameOf (atD D k)) = bs name := fun e => hnm (by have := congrArg (fun x : ByteArray => x.data.toList) e; simpa using this)
        have t1 := bs_toList (nameOf (atD D k))
        have t2 := bs_toList name
        have s3 : (nameOf (atD D k) == name) = false := beq_eq_false_iff_ne.2 hnm
        have s4 : (nameOf (atD D k) != name) = true := by simp [bne, s3]
        go_upto_region 4 with fail
        clear y0 y1 zf0 zf1 hnm q1 c0 hbn s3 s4 t1 t2
        have hset0 := heap_setCell_self (w := wr.drewN n4) (i := 0) (.int .i64 (k : Nat)) HM.out.2.2.2.1
        have hset1 := heap_setCell_self (i := 1) (.int .i64 6) hset0
        have hT5 : Turn (fun k => k = q + 1) wr (((wr.drewN n4).setCell ⟨q + 1, 0, none⟩ (.int .i64 (k : Nat))).setCell ⟨q + 1, 1, none⟩ (.int .i64 6)) :=
          ((turn_drewN (Turn.refl (fun k => k = q + 1) wr) n4).setCell (fun _ => rfl) _).setCell (fun _ => rfl) _
        obtain ⟨W5, hW5⟩ : ∃ W5, ((wr.drewN n4).setCell ⟨q + 1, 0, none⟩ (.int .i64 (k : Nat))).setCell ⟨q + 1, 1, none⟩ (.int .i64 6) = W5 := ⟨_, rfl⟩
        rw [hW5] at hset1 hT5 ⊢
        clear hW5 hset0
        have hq := HH.out.2.1
        have hD5 := DI.keep_new HH.out.1 HM.out.2.2.2.2.1 (by omega) hT5
        have hT6 : Turn (fun _ => False) w W5 := ⟨hT5.os.trans HM.out.1.os, hT5.tape.trans HM.out.1.tape, hT5.output.trans HM.out.1.output, Nat.le_trans HM.out.1.size hT5.size, fun j hj _ => by
          have := HM.out.1.size
          rw [hT5.block j (by omega) (by omega)]; exact HM.out.1.block j hj (fun e => e)⟩
        have hp5 := (hT5.block q (heap_lt HM.out.2.2.1) (by omega)).trans HM.out.2.2.1
        have y0 : W5.cell? ⟨q + 1, 0, none⟩ = some (.int .i64 (k : Nat)) := cell_at hset1 rfl
        have y1 : W5.cell? ⟨q + 1, 1, none⟩ = some (.int .i64 6) := cell_at hset1 rfl
        have HL := Lib.hid (lead_calls hD5 (pb := k) (pa := 6) HM.out.2.2.2.2.2.1 (by decide))
        have H5 := Lib.hid (And.intro hD5 (And.intro hT6 (And.intro hp5 hset1)))
        clear hD5 hT5 hT6 hp5 hset1 hq
        go_wp2_with fail
        refine HL.out.mono ?_
        rintro e6 w6 ⟨rfl, T6⟩
        obtain ⟨z, hz⟩ : ∃ z, numAt (atD D k) 6 = z := ⟨_, rfl⟩
        rw [hz]
        have HN := Lib.hid (show FindI w0 d g D L lv w name P q rest.length (.int .i64 (z : Nat)) w6 from
          ⟨k, 6, rest, rfl, HM.out.2.2.2.2.2.1, by decide, HM.out.2.2.2.2.2.2.1, by rw [hz], by have := HM.out.2.1; unfold findP at this; rw [if_neg HNM.out] at this; exact this,
            (T6.block _ (heap_lt H5.out.2.2.2) (fun e => e)).trans H5.out.2.2.2, (T6.block _ (heap_lt H5.out.2.2.1) (fun e => e)).trans H5.out.2.2.1, H5.out.1.new T6, H5.out.2.1.trans T6⟩)
        clear T6 hz y0 y1
        go_wp2_with fail
        have hgk := HM.out.2.2.2.2.2.2.2
        rw [List.length_cons] at hgk
        go_roundg (rest.length)
        case rel => exact HN.out
        case measure => omega
end
end Go.Flr
