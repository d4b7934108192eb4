/-
  The law's happens, walked: an event happens to both consoles. (Printed by gen/genhap.py.)
-/
import Derived.Deep.LoopGhost
import Derived.Test.YtjdafmpkobelcaaDoorQConEv
import Derived.Test.YtjdafmpkobelcaaDoorQOwnRegionH
set_option linter.unusedVariables false

namespace Go.Con
open Go.Own Go.RowKit Go.Proofs

/-- Both consoles stand at S, and share no block. -/
structure Both (g : Ghost) (r : RG) (S : CS) (w : World) : Prop where
  c : Rep g S w
  x : RRep r S w
  ap : Apart g r.g

structure St2 (g : Ghost) (r : RG) (g' : Ghost) (r' : RG) (w w' : World) : Prop where
  turn : Turn (fun k => (g.ρ k).1 ≠ 0 ∨ (r.g.ρ k).1 ≠ 0) w w'
  tg : ∀ k, k < w.heap.size → g'.ρ k = g.ρ k
  tr : ∀ k, k < w.heap.size → r'.g.ρ k = r.g.ρ k
  cg : g'.c = g.c
  cr : r'.g.c = r.g.c

section
variable {g g1 : Ghost} {r r1 : RG} {S T : CS} {w w' w1 : World}

theorem St2.refl (g : Ghost) (r : RG) (w : World) : St2 g r g r w w := ⟨Turn.refl _ _, fun _ _ => rfl, fun _ _ => rfl, rfl, rfl⟩
theorem St2.trans {g2 : Ghost} {r2 : RG} {w2 : World} (h : St2 g r g1 r1 w w1) (k : St2 g1 r1 g2 r2 w1 w2) : St2 g r g2 r2 w w2 := by
  have hs := h.turn.size
  refine ⟨⟨k.turn.os.trans h.turn.os, k.turn.tape.trans h.turn.tape, k.turn.output.trans h.turn.output, Nat.le_trans hs k.turn.size, fun i hi ho => ?_⟩, fun i hi => (k.tg i (by omega)).trans (h.tg i hi), fun i hi => (k.tr i (by omega)).trans (h.tr i hi), k.cg.trans h.cg, k.cr.trans h.cr⟩
  rw [k.turn.block i (by omega) (by rw [h.tg i hi, h.tr i hi]; exact ho)]
  exact h.turn.block i hi ho
theorem St2.left (r : RG) (h : Step g g1 w w1) : St2 g r g1 r w w1 := ⟨h.turn.mono fun _ _ q => .inl q, h.tags, fun _ _ => rfl, h.c, rfl⟩
theorem St2.right (g : Ghost) (h : Step r.g r1.g w w1) : St2 g r g r1 w w1 := ⟨h.turn.mono fun _ _ q => .inr q, fun _ _ => rfl, h.tags, rfl, h.c⟩
theorem St2.alloc (h : St2 g r g1 r1 w w') (o : Obj) : St2 g r g1 r1 w (w'.alloc o) := ⟨h.turn.alloc o, h.tg, h.tr, h.cg, h.cr⟩
theorem St2.drew (h : St2 g r g1 r1 w w') : St2 g r g1 r1 w w'.drew := ⟨h.turn.drew, h.tg, h.tr, h.cg, h.cr⟩
theorem St2.new (h : St2 g r g1 r1 w w') {K : Nat → Prop} (t : Turn K w' w1) (hK : ∀ k, K k → w.heap.size ≤ k) : St2 g r g1 r1 w w1 := by
  have hs := h.turn.size
  refine ⟨⟨t.os.trans h.turn.os, t.tape.trans h.turn.tape, t.output.trans h.turn.output, Nat.le_trans hs t.size, fun i hi ho => ?_⟩, h.tg, h.tr, h.cg, h.cr⟩
  rw [t.block i (by omega) (fun q => by have := hK i q; omega)]
  exact h.turn.block i hi ho

theorem Both.alloc (h : Both g r S w) (o : Obj) : Both g r S (w.alloc o) := ⟨h.c.alloc o, h.x.alloc o, h.ap⟩
theorem Both.drew (h : Both g r S w) : Both g r S w.drew := ⟨h.c.drew, h.x.drew, h.ap⟩
theorem Both.new (h : Both g r S w) (t : Turn (fun _ => False) w w1) : Both g r S w1 := ⟨h.c.keep t (fun _ _ q => q.elim), h.x.keep t (fun _ _ q => q.elim), h.ap⟩

/-- The program's console has turned: the other one stands. -/
theorem RRep.stands (h : RRep r S w) (ap : Apart g r.g) (s : Step g g1 w w1) : RRep r S w1 ∧ Apart g1 r.g := by
  refine ⟨h.keep s.turn fun k _ hk => (ap k).resolve_left hk, fun k => ?_⟩
  rcases Nat.lt_or_ge k w.heap.size with hk | hk
  · rw [s.tags k hk]; exact ap k
  · exact .inr (h.fresh k hk)
theorem Rep.stands (h : Rep g S w) (ap : Apart g r.g) (s : Step r.g r1.g w w1) : Rep g S w1 ∧ Apart g r1.g := by
  refine ⟨h.keep s.turn fun k _ hk => (ap k).resolve_right hk, fun k => ?_⟩
  rcases Nat.lt_or_ge k w.heap.size with hk | hk
  · rw [s.tags k hk]; exact ap k
  · exact .inl (h.fresh k hk)

theorem write_off (k : Int) (hk : k < 1 ∨ 99 < k) (a : Option Addr) (n cap : Nat) {c : Nat} (hc : g.c = c) :
    Calls Tryd.prog 9 #[.pointer (some ⟨c, 0, none⟩), .int .i64 k, .slice a n cap] w fun e w' => e = .returned (.int .i64 190) ∧ w' = w := by
  rcases hk with hk | hk
  · go_enter Tryd.func9, Tryd.ntmps9
    go_wp2
    go_ret
    exact ⟨rfl, rfl⟩
  · have hk' : ¬ k < 1 := by omega
    go_enter Tryd.func9, Tryd.ntmps9
    go_wp2
    go_ret
    exact ⟨rfl, rfl⟩

theorem rwrite_off (k : Int) (hk : k < 1 ∨ 99 < k) (a : Option Addr) (n cap : Nat) {c : Nat} (hc : r.g.c = c) (h : RRep r S w) :
    Calls Tryd.prog 29 #[.pointer (some ⟨c, 0, none⟩), .int .i64 k, .slice a n cap] w (GPost r.on S w (.int .i64 190)) := by
  subst hc
  have HC := Lib.hid (rstart_calls rfl h)
  clear h
  by_cases h1 : k < 1
  · go_enter Tryd.func29, Tryd.ntmps29
    go_wp2_with fail
    refine HC.out.mono ?_
    rintro e1 w1 ⟨rfl, R1, s1⟩
    have HF := Lib.hid (GI.start R1 s1)
    clear R1 s1 hk
    go_wp2_with fail
    go_ret
    exact ⟨rfl, HF.out⟩
  · have h2 : 99 < k := by omega
    go_enter Tryd.func29, Tryd.ntmps29
    go_wp2_with fail
    refine HC.out.mono ?_
    rintro e1 w1 ⟨rfl, R1, s1⟩
    have HF := Lib.hid (GI.start R1 s1)
    clear R1 s1 hk
    go_wp2_with fail
    go_ret
    exact ⟨rfl, HF.out⟩

/-- What a call on the program's console leaves, and on the reference's. -/
def CPost (g : Ghost) (T : CS) (w : World) (E : Int) (e : Ending) (w' : World) : Prop := e = .returned (.int .i64 E) ∧ ∃ g1, Rep g1 T w' ∧ Step g g1 w w'
def XPost (r : RG) (T : CS) (M : Nat) (w : World) (E : Int) (e : Ending) (w' : World) : Prop := e = .returned (.int .i64 E) ∧ ∃ r1, RRep r1 T w' ∧ Step r.g r1.g w w' ∧ r1.wt.length ≤ M

theorem GPost.x {E : Int} {e : Ending} (h : GPost r.on T w (.int .i64 E) e w') : XPost r T r.wt.length w E e w' := by
  obtain ⟨h1, r1, h2, h3, -, h5⟩ := h
  exact ⟨h1, r1, h2, h3, by rw [h5]; exact Nat.le_refl _⟩
theorem OutPost.c' {E : Int} {v : Value} {e : Ending} (h : OutPost g T w v e w') : e = .returned v ∧ ∃ g1, Rep g1 T w' ∧ Step g g1 w w' := h
theorem OutPost.c {E : Int} {e : Ending} (h : OutPost g T w (.int .i64 E) e w') : CPost g T w E e w' := h

/-- The stages of a region of two calls that tell a number each: i the program's, j the reference's. -/
structure HS (W : World) (g : Ghost) (r : RG) (S T : CS) (M : Nat) (i j : Nat) (E : Int) (s : Nat) (ξ : Nat → Value) (w : World) : Prop where
  e0 : s = 0 → w = W
  e1 : s = 1 → ∃ g1, Rep g1 T w ∧ RRep r S w ∧ Apart g1 r.g ∧ Step g g1 W w ∧ ξ i = .int .i64 E
  e2 : s = 2 → ∃ g1 r1, Both g1 r1 T w ∧ St2 g r g1 r1 W w ∧ r1.wt.length ≤ M ∧ ξ i = .int .i64 E ∧ ξ j = .int .i64 E

/-- The stages of the region of Type: 3 the program's, 7 the reference's, 8 sameLines. -/
structure HT (W : World) (g : Ghost) (r : RG) (S T : CS) (L : List Ln) (M : Nat) (s : Nat) (ξ : Nat → Value) (w : World) : Prop where
  e0 : s = 0 → w = W
  e1 : s = 1 → ∃ g1, Rep g1 T w ∧ RRep r S w ∧ Apart g1 r.g ∧ Step g g1 W w ∧ SliceAt w 41 2 (ξ 3) (lcells L) ∧ ∀ b, (ξ 3).ownBlock = some b → W.heap.size ≤ b ∧ (r.g.ρ b).1 = 0
  e2 : s = 2 → ∃ g1 r1, Both g1 r1 T w ∧ St2 g r g1 r1 W w ∧ r1.wt.length ≤ M ∧ ∃ a c b d, ξ 3 = .slice a L.length c ∧ ξ 7 = .slice b L.length d ∧ LCells w a L ∧ LCells w b L
  e3 : s = 3 → ∃ g1 r1, Both g1 r1 T w ∧ St2 g r g1 r1 W w ∧ r1.wt.length ≤ M ∧ ξ 8 = .bool true

def HapPost (g : Ghost) (r : RG) (T : CS) (M : Nat) (w : World) (e : Ending) (w' : World) : Prop :=
  e = .returned (.bool true) ∧ ∃ g' r', Both g' r' T w' ∧ St2 g r g' r' w w' ∧ r'.wt.length ≤ M

theorem old_cell {W w : World} {g1 : Ghost} (s : Step g g1 W w) {b i : Nat} {v : Value} (hb : (g.ρ b).1 = 0) (hc : W.cell? ⟨b, i, none⟩ = some v) : w.cell? ⟨b, i, none⟩ = some v := by
  have hlt := World.block_lt_of_cell? W _ hc
  rw [s.turn.cell (p := ⟨b, i, none⟩) (by simp [hb]) hlt]; exact hc

set_option maxRecDepth 10000 in
set_option maxHeartbeats 2000000 in
theorem hap_write {c x : Nat} (hc : g.c = c) (hx : r.g.c = x) (B : Both g r S w) (d t E : Int) (ba : Option Addr) (n bc M : Nat) (hd : d = 1)
    (h1 : ∀ W, Rep g S W → St2 g r g r w W → Calls Tryd.prog 9 #[.pointer (some ⟨g.c, 0, none⟩), .int .i64 t, .slice ba n bc] W (CPost g T W E))
    (h2 : ∀ W g1, RRep r S W → St2 g r g1 r w W → Calls Tryd.prog 29 #[.pointer (some ⟨r.g.c, 0, none⟩), .int .i64 t, .slice ba n bc] W (XPost r T M W E)) :
    Calls Tryd.prog 18 #[.pointer (some ⟨c, 0, none⟩), .pointer (some ⟨x, 0, none⟩), .agg #[.int .i64 d, .int .i64 t, .slice ba n bc]] w (HapPost g r T M w) := by
  subst hc
  subst hx
  have d0 : (d == 0) = false := by simp [hd]
  have d1 : (d == 1) = true := by simp [hd]
  clear hd
  obtain ⟨bx, hbx⟩ : ∃ bx, w.heap.size = bx := ⟨_, rfl⟩
  have hg0 : (g.ρ bx).1 = 0 := B.c.fresh bx (by omega)
  have HBX := Lib.hid hbx
  clear hbx
  have B1 := B.alloc (.cells #[.int .i64 d, .int .i64 t, .slice ba n bc] 29)
  have s1 := (St2.refl g r w).alloc (.cells #[.int .i64 d, .int .i64 t, .slice ba n bc] 29)
  have hb := heap_alloc_new w (.cells #[.int .i64 d, .int .i64 t, .slice ba n bc] 29)
  go_enter Tryd.func18, Tryd.ntmps18
  go_upto_region 5 with fail
  obtain ⟨w1, hw1⟩ : ∃ w1, w.alloc (.cells #[.int .i64 d, .int .i64 t, .slice ba n bc] 29) = w1 := ⟨_, rfl⟩
  rw [hw1] at B1 s1 hb ⊢
  rw [HBX.out] at hb ⊢
  have H := Lib.hid (And.intro B1 (And.intro s1 (And.intro h1 h2)))
  have HG := Lib.hid hg0
  have k0 : w1.cell? ⟨bx, 0, none⟩ = some (.int .i64 d) := cell_at hb rfl
  have k1 : w1.cell? ⟨bx, 1, none⟩ = some (.int .i64 t) := cell_at hb rfl
  have k2 : w1.cell? ⟨bx, 2, none⟩ = some (.slice ba n bc) := cell_at hb rfl
  have HK := Lib.hid (And.intro k1 k2)
  clear B B1 s1 hb hw1 h1 h2 hg0
  refine wp_region_planH (aX := ?aXr) [5, 11] [[], [5], [5, 11]] 2 [(0, 0, 0), (1, 0, 0), (2, 0, 0), (3, 0, 0), (4, 0, 0), (5, 0, 1), (6, 0, 0), (6, 1, 1), (7, 0, 0), (7, 1, 1), (8, 0, 0), (8, 1, 1), (9, 0, 0), (9, 1, 1), (10, 0, 0), (10, 1, 1), (11, 1, 2), (12, 2, 2), (13, 2, 2)]
    [.pointer (some ⟨g.c, 0, none⟩), .pointer (some ⟨bx, 1, none⟩), .int .i64 t, .pointer (some ⟨bx, 2, none⟩), .slice ba n bc, undef, .pointer (some ⟨r.g.c, 0, none⟩), .pointer (some ⟨bx, 1, none⟩), .int .i64 t, .pointer (some ⟨bx, 2, none⟩), .slice ba n bc, undef, .bool true, .bool true] (HS w1.drew g r S T M 5 11 E) (by kernel_rfl) (by kernel_rfl) rfl ?hXr (fun _ => undef) ?h0r ?hobr ?hendr
  case hXr => intro ξ; simp only [mixAll, Act.put]; go_simp; rfl
  case h0r => exact ⟨fun _ => rfl, fun q => absurd q (by decide), fun q => absurd q (by decide)⟩
  case hobr =>
    refine oblsH_cons rfl (stepH_value rfl rfl (fun _ _ _ => rfl)) ?_
    refine oblsH_cons rfl (stepH_value rfl rfl (fun _ _ _ => rfl)) ?_
    refine oblsH_cons rfl (stepH_value rfl rfl ?_) ?_
    · rintro ξ w5 h5
      obtain rfl := h5.e0 rfl
      clear h5
      go_simp
      try rfl
    refine oblsH_cons rfl (stepH_value rfl rfl (fun _ _ _ => rfl)) ?_
    refine oblsH_cons rfl (stepH_value rfl rfl ?_) ?_
    · rintro ξ w5 h5
      obtain rfl := h5.e0 rfl
      clear h5
      go_simp
      try rfl
    refine oblsH_cons rfl (stepH_call rfl rfl ?_) ?_
    · rintro ξ w5 h5
      obtain rfl := h5.e0 rfl
      refine ⟨9, #[.pointer (some ⟨g.c, 0, none⟩), .int .i64 t, .slice ba n bc], by clear h5; go_simp, ?_⟩
      refine (H.out.2.2.1 w1.drew H.out.1.drew.c H.out.2.1.drew).mono ?_
      rintro e6 w6 ⟨rfl, g6, r6, s6⟩
      have st := H.out.1.drew.x.stands H.out.1.ap s6
      exact ⟨_, rfl, ⟨fun q => absurd q (by decide), fun _ => ⟨g6, r6, st.1, st.2, s6, rfl⟩, fun q => absurd q (by decide)⟩⟩
    refine oblsH_cons rfl (stepH_value rfl rfl (fun _ _ _ => rfl)) ?_
    refine oblsH_cons rfl (stepH_value rfl rfl (fun _ _ _ => rfl)) ?_
    refine oblsH_cons rfl (stepH_value rfl rfl (fun _ _ _ => rfl)) ?_
    refine oblsH_cons rfl (stepH_value rfl rfl (fun _ _ _ => rfl)) ?_
    refine oblsH_cons rfl (stepH_value rfl rfl ?_) ?_
    · rintro ξ w5 h5
      obtain rfl := h5.e0 rfl
      clear h5
      go_simp
      try rfl
    refine oblsH_cons rfl (stepH_value rfl rfl ?_) ?_
    · rintro ξ w5 h5
      obtain ⟨g1, -, -, -, s5, -⟩ := h5.e1 rfl
      have y1 := old_cell s5 HG.out (show w1.drew.cell? _ = _ from HK.out.1)
      have y2 := old_cell s5 HG.out (show w1.drew.cell? _ = _ from HK.out.2)
      clear h5 s5
      go_simp
      try rfl
    refine oblsH_cons rfl (stepH_value rfl rfl (fun _ _ _ => rfl)) ?_
    refine oblsH_cons rfl (stepH_value rfl rfl (fun _ _ _ => rfl)) ?_
    refine oblsH_cons rfl (stepH_value rfl rfl ?_) ?_
    · rintro ξ w5 h5
      obtain rfl := h5.e0 rfl
      clear h5
      go_simp
      try rfl
    refine oblsH_cons rfl (stepH_value rfl rfl ?_) ?_
    · rintro ξ w5 h5
      obtain ⟨g1, -, -, -, s5, -⟩ := h5.e1 rfl
      have y1 := old_cell s5 HG.out (show w1.drew.cell? _ = _ from HK.out.1)
      have y2 := old_cell s5 HG.out (show w1.drew.cell? _ = _ from HK.out.2)
      clear h5 s5
      go_simp
      try rfl
    refine oblsH_cons rfl (stepH_call rfl rfl ?_) ?_
    · rintro ξ w5 h5
      obtain ⟨g1, q1, q2, q3, s5, q4⟩ := h5.e1 rfl
      refine ⟨29, #[.pointer (some ⟨r.g.c, 0, none⟩), .int .i64 t, .slice ba n bc], by clear h5; go_simp, ?_⟩
      refine (H.out.2.2.2 w5 g1 q2 (H.out.2.1.drew.trans (St2.left r s5))).mono ?_
      rintro e6 w6 ⟨rfl, r6, p6, s6, m6⟩
      have st := q1.stands q3 s6
      exact ⟨_, rfl, ⟨fun q => absurd q (by decide), fun q => absurd q (by decide), fun _ => ⟨g1, r6, ⟨st.1, p6, st.2⟩, (St2.left r s5).trans (St2.right g1 s6), m6, q4, rfl⟩⟩⟩
    refine oblsH_cons rfl (stepH_value rfl rfl ?_) ?_
    · rintro ξ w5 h5
      obtain ⟨-, -, -, -, -, y1, y2⟩ := h5.e2 rfl
      clear h5
      go_simp
      try rfl
    refine oblsH_cons rfl (stepH_value rfl rfl (fun _ _ _ => rfl)) ?_
    exact oblsH_nil
  case hendr =>
    rintro ξ w5 h5
    obtain ⟨g1, r1, B2, s2, m2, -, -⟩ := h5.e2 rfl
    have HF := Lib.hid (show HapPost g r T M w (.returned (.bool true)) w5 from ⟨rfl, g1, r1, B2, H.out.2.1.drew.trans s2, m2⟩)
    clear h5 B2 s2 m2 k0 k1 k2
    go_wp2_with fail
    go_ret
    exact HF.out

set_option maxRecDepth 10000 in
set_option maxHeartbeats 2000000 in
theorem hap_flush {c x : Nat} (hc : g.c = c) (hx : r.g.c = x) (B : Both g r S w) (d t E : Int) (ba : Option Addr) (n bc M : Nat) (hd : d = 2)
    (h1 : ∀ W, Rep g S W → St2 g r g r w W → Calls Tryd.prog 10 #[.pointer (some ⟨g.c, 0, none⟩), .int .i64 t] W (CPost g T W E))
    (h2 : ∀ W g1, RRep r S W → St2 g r g1 r w W → Calls Tryd.prog 30 #[.pointer (some ⟨r.g.c, 0, none⟩), .int .i64 t] W (XPost r T M W E)) :
    Calls Tryd.prog 18 #[.pointer (some ⟨c, 0, none⟩), .pointer (some ⟨x, 0, none⟩), .agg #[.int .i64 d, .int .i64 t, .slice ba n bc]] w (HapPost g r T M w) := by
  subst hc
  subst hx
  have d0 : (d == 0) = false := by simp [hd]
  have d1 : (d == 1) = false := by simp [hd]
  have d2 : (d == 2) = true := by simp [hd]
  clear hd
  obtain ⟨bx, hbx⟩ : ∃ bx, w.heap.size = bx := ⟨_, rfl⟩
  have hg0 : (g.ρ bx).1 = 0 := B.c.fresh bx (by omega)
  have HBX := Lib.hid hbx
  clear hbx
  have B1 := B.alloc (.cells #[.int .i64 d, .int .i64 t, .slice ba n bc] 29)
  have s1 := (St2.refl g r w).alloc (.cells #[.int .i64 d, .int .i64 t, .slice ba n bc] 29)
  have hb := heap_alloc_new w (.cells #[.int .i64 d, .int .i64 t, .slice ba n bc] 29)
  go_enter Tryd.func18, Tryd.ntmps18
  go_upto_region 7 with fail
  obtain ⟨w1, hw1⟩ : ∃ w1, w.alloc (.cells #[.int .i64 d, .int .i64 t, .slice ba n bc] 29) = w1 := ⟨_, rfl⟩
  rw [hw1] at B1 s1 hb ⊢
  rw [HBX.out] at hb ⊢
  have H := Lib.hid (And.intro B1 (And.intro s1 (And.intro h1 h2)))
  have HG := Lib.hid hg0
  have k0 : w1.cell? ⟨bx, 0, none⟩ = some (.int .i64 d) := cell_at hb rfl
  have k1 : w1.cell? ⟨bx, 1, none⟩ = some (.int .i64 t) := cell_at hb rfl
  have k2 : w1.cell? ⟨bx, 2, none⟩ = some (.slice ba n bc) := cell_at hb rfl
  have HK := Lib.hid (And.intro k1 k2)
  clear B B1 s1 hb hw1 h1 h2 hg0
  refine wp_region_planH (aX := ?aXr) [3, 7] [[], [3], [3, 7]] 2 [(0, 0, 0), (1, 0, 0), (2, 0, 0), (3, 0, 1), (4, 0, 0), (4, 1, 1), (5, 0, 0), (5, 1, 1), (6, 0, 0), (6, 1, 1), (7, 1, 2), (8, 2, 2), (9, 2, 2)]
    [.pointer (some ⟨g.c, 0, none⟩), .pointer (some ⟨bx, 1, none⟩), .int .i64 t, undef, .pointer (some ⟨r.g.c, 0, none⟩), .pointer (some ⟨bx, 1, none⟩), .int .i64 t, undef, .bool true, .bool true] (HS w1.drew g r S T M 3 7 E) (by kernel_rfl) (by kernel_rfl) rfl ?hXr (fun _ => undef) ?h0r ?hobr ?hendr
  case hXr => intro ξ; simp only [mixAll, Act.put]; go_simp; rfl
  case h0r => exact ⟨fun _ => rfl, fun q => absurd q (by decide), fun q => absurd q (by decide)⟩
  case hobr =>
    refine oblsH_cons rfl (stepH_value rfl rfl (fun _ _ _ => rfl)) ?_
    refine oblsH_cons rfl (stepH_value rfl rfl (fun _ _ _ => rfl)) ?_
    refine oblsH_cons rfl (stepH_value rfl rfl ?_) ?_
    · rintro ξ w5 h5
      obtain rfl := h5.e0 rfl
      clear h5
      go_simp
      try rfl
    refine oblsH_cons rfl (stepH_call rfl rfl ?_) ?_
    · rintro ξ w5 h5
      obtain rfl := h5.e0 rfl
      refine ⟨10, #[.pointer (some ⟨g.c, 0, none⟩), .int .i64 t], by clear h5; go_simp, ?_⟩
      refine (H.out.2.2.1 w1.drew H.out.1.drew.c H.out.2.1.drew).mono ?_
      rintro e6 w6 ⟨rfl, g6, r6, s6⟩
      have st := H.out.1.drew.x.stands H.out.1.ap s6
      exact ⟨_, rfl, ⟨fun q => absurd q (by decide), fun _ => ⟨g6, r6, st.1, st.2, s6, rfl⟩, fun q => absurd q (by decide)⟩⟩
    refine oblsH_cons rfl (stepH_value rfl rfl (fun _ _ _ => rfl)) ?_
    refine oblsH_cons rfl (stepH_value rfl rfl (fun _ _ _ => rfl)) ?_
    refine oblsH_cons rfl (stepH_value rfl rfl (fun _ _ _ => rfl)) ?_
    refine oblsH_cons rfl (stepH_value rfl rfl (fun _ _ _ => rfl)) ?_
    refine oblsH_cons rfl (stepH_value rfl rfl ?_) ?_
    · rintro ξ w5 h5
      obtain rfl := h5.e0 rfl
      clear h5
      go_simp
      try rfl
    refine oblsH_cons rfl (stepH_value rfl rfl ?_) ?_
    · rintro ξ w5 h5
      obtain ⟨g1, -, -, -, s5, -⟩ := h5.e1 rfl
      have y1 := old_cell s5 HG.out (show w1.drew.cell? _ = _ from HK.out.1)
      have y2 := old_cell s5 HG.out (show w1.drew.cell? _ = _ from HK.out.2)
      clear h5 s5
      go_simp
      try rfl
    refine oblsH_cons rfl (stepH_call rfl rfl ?_) ?_
    · rintro ξ w5 h5
      obtain ⟨g1, q1, q2, q3, s5, q4⟩ := h5.e1 rfl
      refine ⟨30, #[.pointer (some ⟨r.g.c, 0, none⟩), .int .i64 t], by clear h5; go_simp, ?_⟩
      refine (H.out.2.2.2 w5 g1 q2 (H.out.2.1.drew.trans (St2.left r s5))).mono ?_
      rintro e6 w6 ⟨rfl, r6, p6, s6, m6⟩
      have st := q1.stands q3 s6
      exact ⟨_, rfl, ⟨fun q => absurd q (by decide), fun q => absurd q (by decide), fun _ => ⟨g1, r6, ⟨st.1, p6, st.2⟩, (St2.left r s5).trans (St2.right g1 s6), m6, q4, rfl⟩⟩⟩
    refine oblsH_cons rfl (stepH_value rfl rfl ?_) ?_
    · rintro ξ w5 h5
      obtain ⟨-, -, -, -, -, y1, y2⟩ := h5.e2 rfl
      clear h5
      go_simp
      try rfl
    refine oblsH_cons rfl (stepH_value rfl rfl (fun _ _ _ => rfl)) ?_
    exact oblsH_nil
  case hendr =>
    rintro ξ w5 h5
    obtain ⟨g1, r1, B2, s2, m2, -, -⟩ := h5.e2 rfl
    have HF := Lib.hid (show HapPost g r T M w (.returned (.bool true)) w5 from ⟨rfl, g1, r1, B2, H.out.2.1.drew.trans s2, m2⟩)
    clear h5 B2 s2 m2 k0 k1 k2
    go_wp2_with fail
    go_ret
    exact HF.out

set_option maxRecDepth 10000 in
set_option maxHeartbeats 2000000 in
theorem hap_flags {c x : Nat} (hc : g.c = c) (hx : r.g.c = x) (B : Both g r S w) (d t E : Int) (ba : Option Addr) (n bc M : Nat) (hd : d ≠ 0 ∧ d ≠ 1 ∧ d ≠ 2 ∧ d ≠ 3)
    (h1 : ∀ W, Rep g S W → St2 g r g r w W → Calls Tryd.prog 23 #[.pointer (some ⟨g.c, 0, none⟩), .int .i64 t] W (CPost g T W E))
    (h2 : ∀ W g1, RRep r S W → St2 g r g1 r w W → Calls Tryd.prog 32 #[.pointer (some ⟨r.g.c, 0, none⟩), .int .i64 t] W (XPost r T M W E)) :
    Calls Tryd.prog 18 #[.pointer (some ⟨c, 0, none⟩), .pointer (some ⟨x, 0, none⟩), .agg #[.int .i64 d, .int .i64 t, .slice ba n bc]] w (HapPost g r T M w) := by
  subst hc
  subst hx
  have d0 : (d == 0) = false := by simp [hd.1]
  have d1 : (d == 1) = false := by simp [hd.2.1]
  have d2 : (d == 2) = false := by simp [hd.2.2.1]
  have d3 : (d == 3) = false := by simp [hd.2.2.2]
  clear hd
  obtain ⟨bx, hbx⟩ : ∃ bx, w.heap.size = bx := ⟨_, rfl⟩
  have hg0 : (g.ρ bx).1 = 0 := B.c.fresh bx (by omega)
  have HBX := Lib.hid hbx
  clear hbx
  have B1 := B.alloc (.cells #[.int .i64 d, .int .i64 t, .slice ba n bc] 29)
  have s1 := (St2.refl g r w).alloc (.cells #[.int .i64 d, .int .i64 t, .slice ba n bc] 29)
  have hb := heap_alloc_new w (.cells #[.int .i64 d, .int .i64 t, .slice ba n bc] 29)
  go_enter Tryd.func18, Tryd.ntmps18
  go_upto_region 12 with fail
  obtain ⟨w1, hw1⟩ : ∃ w1, w.alloc (.cells #[.int .i64 d, .int .i64 t, .slice ba n bc] 29) = w1 := ⟨_, rfl⟩
  rw [hw1] at B1 s1 hb ⊢
  rw [HBX.out] at hb ⊢
  have H := Lib.hid (And.intro B1 (And.intro s1 (And.intro h1 h2)))
  have HG := Lib.hid hg0
  have k0 : w1.cell? ⟨bx, 0, none⟩ = some (.int .i64 d) := cell_at hb rfl
  have k1 : w1.cell? ⟨bx, 1, none⟩ = some (.int .i64 t) := cell_at hb rfl
  have k2 : w1.cell? ⟨bx, 2, none⟩ = some (.slice ba n bc) := cell_at hb rfl
  have HK := Lib.hid (And.intro k1 k2)
  clear B B1 s1 hb hw1 h1 h2 hg0
  refine wp_region_planH (aX := ?aXr) [3, 7] [[], [3], [3, 7]] 2 [(0, 0, 0), (1, 0, 0), (2, 0, 0), (3, 0, 1), (4, 0, 0), (4, 1, 1), (5, 0, 0), (5, 1, 1), (6, 0, 0), (6, 1, 1), (7, 1, 2), (8, 2, 2), (9, 2, 2)]
    [.pointer (some ⟨g.c, 0, none⟩), .pointer (some ⟨bx, 1, none⟩), .int .i64 t, undef, .pointer (some ⟨r.g.c, 0, none⟩), .pointer (some ⟨bx, 1, none⟩), .int .i64 t, undef, .bool true, .bool true] (HS w1.drew g r S T M 3 7 E) (by kernel_rfl) (by kernel_rfl) rfl ?hXr (fun _ => undef) ?h0r ?hobr ?hendr
  case hXr => intro ξ; simp only [mixAll, Act.put]; go_simp; rfl
  case h0r => exact ⟨fun _ => rfl, fun q => absurd q (by decide), fun q => absurd q (by decide)⟩
  case hobr =>
    refine oblsH_cons rfl (stepH_value rfl rfl (fun _ _ _ => rfl)) ?_
    refine oblsH_cons rfl (stepH_value rfl rfl (fun _ _ _ => rfl)) ?_
    refine oblsH_cons rfl (stepH_value rfl rfl ?_) ?_
    · rintro ξ w5 h5
      obtain rfl := h5.e0 rfl
      clear h5
      go_simp
      try rfl
    refine oblsH_cons rfl (stepH_call rfl rfl ?_) ?_
    · rintro ξ w5 h5
      obtain rfl := h5.e0 rfl
      refine ⟨23, #[.pointer (some ⟨g.c, 0, none⟩), .int .i64 t], by clear h5; go_simp, ?_⟩
      refine (H.out.2.2.1 w1.drew H.out.1.drew.c H.out.2.1.drew).mono ?_
      rintro e6 w6 ⟨rfl, g6, r6, s6⟩
      have st := H.out.1.drew.x.stands H.out.1.ap s6
      exact ⟨_, rfl, ⟨fun q => absurd q (by decide), fun _ => ⟨g6, r6, st.1, st.2, s6, rfl⟩, fun q => absurd q (by decide)⟩⟩
    refine oblsH_cons rfl (stepH_value rfl rfl (fun _ _ _ => rfl)) ?_
    refine oblsH_cons rfl (stepH_value rfl rfl (fun _ _ _ => rfl)) ?_
    refine oblsH_cons rfl (stepH_value rfl rfl (fun _ _ _ => rfl)) ?_
    refine oblsH_cons rfl (stepH_value rfl rfl (fun _ _ _ => rfl)) ?_
    refine oblsH_cons rfl (stepH_value rfl rfl ?_) ?_
    · rintro ξ w5 h5
      obtain rfl := h5.e0 rfl
      clear h5
      go_simp
      try rfl
    refine oblsH_cons rfl (stepH_value rfl rfl ?_) ?_
    · rintro ξ w5 h5
      obtain ⟨g1, -, -, -, s5, -⟩ := h5.e1 rfl
      have y1 := old_cell s5 HG.out (show w1.drew.cell? _ = _ from HK.out.1)
      have y2 := old_cell s5 HG.out (show w1.drew.cell? _ = _ from HK.out.2)
      clear h5 s5
      go_simp
      try rfl
    refine oblsH_cons rfl (stepH_call rfl rfl ?_) ?_
    · rintro ξ w5 h5
      obtain ⟨g1, q1, q2, q3, s5, q4⟩ := h5.e1 rfl
      refine ⟨32, #[.pointer (some ⟨r.g.c, 0, none⟩), .int .i64 t], by clear h5; go_simp, ?_⟩
      refine (H.out.2.2.2 w5 g1 q2 (H.out.2.1.drew.trans (St2.left r s5))).mono ?_
      rintro e6 w6 ⟨rfl, r6, p6, s6, m6⟩
      have st := q1.stands q3 s6
      exact ⟨_, rfl, ⟨fun q => absurd q (by decide), fun q => absurd q (by decide), fun _ => ⟨g1, r6, ⟨st.1, p6, st.2⟩, (St2.left r s5).trans (St2.right g1 s6), m6, q4, rfl⟩⟩⟩
    refine oblsH_cons rfl (stepH_value rfl rfl ?_) ?_
    · rintro ξ w5 h5
      obtain ⟨-, -, -, -, -, y1, y2⟩ := h5.e2 rfl
      clear h5
      go_simp
      try rfl
    refine oblsH_cons rfl (stepH_value rfl rfl (fun _ _ _ => rfl)) ?_
    exact oblsH_nil
  case hendr =>
    rintro ξ w5 h5
    obtain ⟨g1, r1, B2, s2, m2, -, -⟩ := h5.e2 rfl
    have HF := Lib.hid (show HapPost g r T M w (.returned (.bool true)) w5 from ⟨rfl, g1, r1, B2, H.out.2.1.drew.trans s2, m2⟩)
    clear h5 B2 s2 m2 k0 k1 k2
    go_wp2_with fail
    go_ret
    exact HF.out

set_option maxRecDepth 10000 in
set_option maxHeartbeats 2000000 in
theorem hap_type {c x : Nat} (hc : g.c = c) (hx : r.g.c = x) (B : Both g r S w) (t : Int) (l : Bytes) (ba : Option Addr) (bc : Nat) (ok : S.Ok) {N : Nat} (sm : S.Small N) (hN : N + 250 * l.length ≤ 1099511000000) (hl : l.length ≤ 1000000) (hwt : r.wt.length ≤ 1000000)
    (i1 : BIn g.ρ w ba l) (i2 : BIn r.g.ρ w ba l) :
    Calls Tryd.prog 18 #[.pointer (some ⟨c, 0, none⟩), .pointer (some ⟨x, 0, none⟩), .agg #[.int .i64 0, .int .i64 t, .slice ba l.length bc]] w (HapPost g r (S.type l).1 (r.wt.length + l.length) w) := by
  subst hc
  subst hx
  obtain ⟨bx, hbx⟩ : ∃ bx, w.heap.size = bx := ⟨_, rfl⟩
  have hg0 : (g.ρ bx).1 = 0 := B.c.fresh bx (by omega)
  have HBX := Lib.hid hbx
  clear hbx
  have B1 := B.alloc (.cells #[.int .i64 0, .int .i64 t, .slice ba l.length bc] 29)
  have s1 := (St2.refl g r w).alloc (.cells #[.int .i64 0, .int .i64 t, .slice ba l.length bc] 29)
  have j1 := i1.step ((Step.refl g w).alloc (.cells #[.int .i64 0, .int .i64 t, .slice ba l.length bc] 29))
  have j2 := i2.step (g' := r.g) ((Step.refl r.g w).alloc (.cells #[.int .i64 0, .int .i64 t, .slice ba l.length bc] 29))
  have hb := heap_alloc_new w (.cells #[.int .i64 0, .int .i64 t, .slice ba l.length bc] 29)
  obtain ⟨n, hn⟩ : ∃ n, l.length = n := ⟨_, rfl⟩
  have HN := Lib.hid hn
  have HW := Lib.hid (And.intro ok (And.intro sm (And.intro hN (And.intro hl hwt))))
  clear hn ok sm hN hl hwt i1 i2
  rw [HN.out] at hb B1 s1 j1 j2 ⊢
  go_enter Tryd.func18, Tryd.ntmps18
  go_upto_region 3 with fail
  obtain ⟨w1, hw1⟩ : ∃ w1, w.alloc (.cells #[.int .i64 0, .int .i64 t, .slice ba n bc] 29) = w1 := ⟨_, rfl⟩
  rw [hw1] at B1 s1 hb j1 j2 ⊢
  rw [HBX.out] at hb ⊢
  have H := Lib.hid (And.intro B1 (And.intro s1 (And.intro j1 j2)))
  have HG := Lib.hid hg0
  have k0 : w1.cell? ⟨bx, 0, none⟩ = some (.int .i64 0) := cell_at hb rfl
  have k1 : w1.cell? ⟨bx, 1, none⟩ = some (.int .i64 t) := cell_at hb rfl
  have k2 : w1.cell? ⟨bx, 2, none⟩ = some (.slice ba n bc) := cell_at hb rfl
  have HK := Lib.hid (And.intro k1 k2)
  clear B B1 s1 hb hw1 hg0 j1 j2
  refine wp_region_planH (aX := ?aXr) [3, 7, 8] [[], [3], [3, 7], [3, 7, 8]] 3 [(0, 0, 0), (1, 0, 0), (2, 0, 0), (3, 0, 1), (4, 0, 0), (4, 1, 1), (5, 0, 0), (5, 1, 1), (6, 0, 0), (6, 1, 1), (7, 1, 2), (8, 2, 3), (9, 3, 3)]
    [.pointer (some ⟨g.c, 0, none⟩), .pointer (some ⟨bx, 2, none⟩), .slice ba n bc, undef, .pointer (some ⟨r.g.c, 0, none⟩), .pointer (some ⟨bx, 2, none⟩), .slice ba n bc, undef, undef, .bool true]
    (HT w1.drew g r S (S.type l).1 (S.type l).2 (r.wt.length + n)) (by kernel_rfl) (by kernel_rfl) rfl ?hXr (fun _ => undef) ?h0r ?hobr ?hendr
  case hXr => intro ξ; simp only [mixAll, Act.put]; go_simp; rfl
  case h0r => exact ⟨fun _ => rfl, fun q => absurd q (by decide), fun q => absurd q (by decide), fun q => absurd q (by decide)⟩
  case hobr =>
    refine oblsH_cons rfl (stepH_value rfl rfl (fun _ _ _ => rfl)) ?_
    refine oblsH_cons rfl (stepH_value rfl rfl (fun _ _ _ => rfl)) ?_
    refine oblsH_cons rfl (stepH_value rfl rfl ?_) ?_
    · rintro ξ w5 h5
      obtain rfl := h5.e0 rfl
      clear h5
      go_simp
      try rfl
    refine oblsH_cons rfl (stepH_call rfl rfl ?_) ?_
    · rintro ξ w5 h5
      obtain rfl := h5.e0 rfl
      have hq := type_calls (S := S) ba bc l rfl H.out.1.drew.c HW.out.1 HW.out.2.1 HW.out.2.2.1 HW.out.2.2.2.1 (H.out.2.2.1.step ((Step.refl g w1).drew))
      rw [HN.out] at hq
      refine ⟨15, #[.pointer (some ⟨g.c, 0, none⟩), .slice ba n bc], by clear h5 hq; go_simp, ?_⟩
      refine hq.mono ?_
      rintro e6 w6 ⟨v6, g6, rfl, r6, s6, o6, n6⟩
      have st := H.out.1.drew.x.stands H.out.1.ap s6
      exact ⟨_, rfl, ⟨fun q => absurd q (by decide), fun _ => ⟨g6, r6, st.1, st.2, s6, o6, fun b hb => ⟨(n6 b hb).1, H.out.1.drew.x.fresh b (n6 b hb).1⟩⟩, fun q => absurd q (by decide), fun q => absurd q (by decide)⟩⟩
    refine oblsH_cons rfl (stepH_value rfl rfl (fun _ _ _ => rfl)) ?_
    refine oblsH_cons rfl (stepH_value rfl rfl (fun _ _ _ => rfl)) ?_
    refine oblsH_cons rfl (stepH_value rfl rfl (fun _ _ _ => rfl)) ?_
    refine oblsH_cons rfl (stepH_value rfl rfl (fun _ _ _ => rfl)) ?_
    refine oblsH_cons rfl (stepH_value rfl rfl ?_) ?_
    · rintro ξ w5 h5
      obtain rfl := h5.e0 rfl
      clear h5
      go_simp
      try rfl
    refine oblsH_cons rfl (stepH_value rfl rfl ?_) ?_
    · rintro ξ w5 h5
      obtain ⟨g1, -, -, -, s5, -⟩ := h5.e1 rfl
      have y2 := old_cell s5 HG.out (show w1.drew.cell? _ = _ from HK.out.2)
      clear h5 s5
      go_simp
      try rfl
    refine oblsH_cons rfl (stepH_call rfl rfl ?_) ?_
    · rintro ξ w5 h5
      obtain ⟨g1, q1, q2, q3, s5, o5, n5⟩ := h5.e1 rfl
      have i5 : BIn r.g.ρ w5 ba l := by
        rcases H.out.2.2.2 with q | ⟨b, off, ha, hr, hb, hcell⟩
        · exact .inl q
        · rcases H.out.2.2.1 with q | ⟨b', off', ha', hr', -, -⟩
          · exact .inl q
          · rw [ha] at ha'
            have hbb : b = b' := congrArg Addr.block (Option.some.inj ha')
            refine .inr ⟨b, off, ha, hr, Nat.lt_of_lt_of_le hb s5.turn.size, fun i hi => ?_⟩
            exact old_cell s5 (by rw [hbb]; exact hr') (hcell i hi)
      have hq := rtype_calls (S := S) ba bc l rfl q2 HW.out.1 HW.out.2.1 HW.out.2.2.1 HW.out.2.2.2.1 (by have := HW.out.2.2.2.2; omega) i5
      rw [HN.out] at hq
      refine ⟨28, #[.pointer (some ⟨r.g.c, 0, none⟩), .slice ba n bc], by clear h5 hq; go_simp, ?_⟩
      refine hq.mono ?_
      rintro e6 w6 ⟨v6, r6, rfl, p6, s6, o6, n6, -, t6⟩
      have st := q1.stands q3 s6
      have o7 : SliceAt w6 41 2 (ξ 3) (lcells (S.type l).2) := o5.turn s6.turn fun b hb hh => hh (n5 b hb).2
      obtain ⟨a3, n3, c3, e3, l3, -⟩ := o7.form
      obtain ⟨a6, m6, c6, rfl, l6, -⟩ := o6.form
      rw [e3] at o7
      have f3 := LCells.of_slice o7
      have f6 := LCells.of_slice o6
      have hll := CS.type_lines S l
      have hlN := HN.out
      refine ⟨_, rfl, ⟨fun q => absurd q (by decide), fun q => absurd q (by decide), fun _ => ⟨g1, r6, ⟨st.1, p6, st.2⟩, (St2.left r s5).trans (St2.right g1 s6), by rw [t6, List.length_append]; omega, a3, c3, a6, c6, ?_, ?_, f3.2, f6.2⟩, fun q => absurd q (by decide)⟩⟩
      · show ξ 3 = _
        rw [e3, f3.1]
      · show Value.slice a6 m6 c6 = _
        rw [f6.1]
    refine oblsH_cons rfl (stepH_call rfl rfl ?_) ?_
    · rintro ξ w5 h5
      obtain ⟨g1, r1, B2, s2, m2, a, c, b, d, y3, y7, L3, L7⟩ := h5.e2 rfl
      have hll := CS.type_lines S l
      have hq := same_calls c d L3 L7 (by have := HW.out.2.2.2.1; omega)
      refine ⟨27, #[.slice a (S.type l).2.length c, .slice b (S.type l).2.length d], by clear h5 hq L3 L7 B2 s2 m2; go_simp, ?_⟩
      refine hq.mono ?_
      rintro e6 w6 ⟨rfl, t6⟩
      exact ⟨_, rfl, ⟨fun q => absurd q (by decide), fun q => absurd q (by decide), fun q => absurd q (by decide), fun _ => ⟨g1, r1, B2.new t6, s2.new t6 (fun _ q => q.elim), m2, rfl⟩⟩⟩
    refine oblsH_cons rfl (stepH_value rfl rfl ?_) ?_
    · rintro ξ w5 h5
      obtain ⟨-, -, -, -, -, y⟩ := h5.e3 rfl
      clear h5
      go_simp
      try rfl
    exact oblsH_nil
  case hendr =>
    rintro ξ w5 h5
    obtain ⟨g1, r1, B2, s2, m2, -⟩ := h5.e3 rfl
    have HF := Lib.hid (show HapPost g r (S.type l).1 (r.wt.length + n) w (.returned (.bool true)) w5 from ⟨rfl, g1, r1, B2, H.out.2.1.drew.trans s2, m2⟩)
    clear h5 B2 s2 m2 k0 k1 k2
    go_wp2_with fail
    go_ret
    exact HF.out

/-- Read of the program's console, for every number. -/
def CReadPost (g : Ghost) (S : CS) (w : World) (k : Int) (e : Ending) (w' : World) : Prop :=
  e = .returned (.tuple #[.string ⟨(S.read k).2.1.toArray⟩, .bool (S.read k).2.2]) ∧ ∃ g1, Rep g1 (S.read k).1 w' ∧ Step g g1 w w'
theorem read_calls (k : Int) (hw : (Lit.int .i64 k).wf = true) {c : Nat} (hc : g.c = c) (h : Rep g S w) :
    Calls Tryd.prog 22 #[.pointer (some ⟨c, 0, none⟩), .int .i64 k] w (CReadPost g S w k) := by
  cases he : S.lines k with
  | nil =>
    refine (read_none k hw hc h he).mono ?_
    rintro e w' ⟨rfl, hw'⟩
    refine ⟨by rw [read_of_nil he], g, ?_, ?_⟩
    · rw [read_of_nil he, hw']; exact h
    · rw [hw']; exact Step.refl _ _
  | cons s rest =>
    refine (read_some k hw hc h he).mono ?_
    rintro e w' ⟨rfl, g', h1, h2⟩
    exact ⟨by rw [read_of_cons he], g', by rw [read_of_cons he]; exact h1, h2⟩

set_option maxRecDepth 10000 in
set_option maxHeartbeats 2000000 in
theorem hap_read {c x : Nat} (hc : g.c = c) (hx : r.g.c = x) (B : Both g r S w) (t : Int) (hwf : (Lit.int .i64 t).wf = true) (ba : Option Addr) (n bc : Nat) (hwt : r.wt.length ≤ 1000000) :
    Calls Tryd.prog 18 #[.pointer (some ⟨c, 0, none⟩), .pointer (some ⟨x, 0, none⟩), .agg #[.int .i64 3, .int .i64 t, .slice ba n bc]] w (HapPost g r (S.read t).1 r.wt.length w) := by
  subst hc
  subst hx
  obtain ⟨bx, hbx⟩ : ∃ bx, w.heap.size = bx := ⟨_, rfl⟩
  have hg0 : (g.ρ bx).1 = 0 := B.c.fresh bx (by omega)
  have HBX := Lib.hid hbx
  clear hbx
  have B1 := B.alloc (.cells #[.int .i64 3, .int .i64 t, .slice ba n bc] 29)
  have s1 := (St2.refl g r w).alloc (.cells #[.int .i64 3, .int .i64 t, .slice ba n bc] 29)
  have hb := heap_alloc_new w (.cells #[.int .i64 3, .int .i64 t, .slice ba n bc] 29)
  go_enter Tryd.func18, Tryd.ntmps18
  go_upto_region 9 with fail
  obtain ⟨w1, hw1⟩ : ∃ w1, w.alloc (.cells #[.int .i64 3, .int .i64 t, .slice ba n bc] 29) = w1 := ⟨_, rfl⟩
  rw [hw1] at B1 s1 hb ⊢
  rw [HBX.out] at hb ⊢
  have k1 : w1.cell? ⟨bx, 1, none⟩ = some (.int .i64 t) := cell_at hb rfl
  have H := Lib.hid (And.intro B1 (And.intro s1 (And.intro hg0 (And.intro hwf hwt))))
  have HK := Lib.hid k1
  clear B B1 s1 hb hw1 hg0 hwf hwt
  go_wp2_with fail
  refine (read_calls t H.out.2.2.2.1 rfl H.out.1.c).mono ?_
  rintro e2 w2 ⟨rfl, g2, r2, s2⟩
  have st := H.out.1.x.stands H.out.1.ap s2
  have k2 := old_cell s2 H.out.2.2.1 HK.out
  have H2 := Lib.hid (And.intro r2 (And.intro st.1 (And.intro st.2 s2)))
  clear r2 st s2 k1
  go_wp2_with fail
  refine (rread_calls t rfl H2.out.2.1 (by have := H.out.2.2.2.2; omega)).mono ?_
  rintro e3 w3 ⟨rfl, r3, p3, s3, -, m3⟩
  have st := H2.out.1.stands H2.out.2.2.1 s3
  have HF := Lib.hid (show HapPost g r (S.read t).1 r.wt.length w (.returned (.bool true)) w3 from ⟨rfl, g2, r3, ⟨st.1, p3, st.2⟩, H.out.2.1.trans ((St2.left r H2.out.2.2.2).trans (St2.right g2 s3)), m3⟩)
  generalize (S.read t).2.1 = y at *
  generalize (S.read t).2.2 = z at *
  clear st p3 s3 m3 k2
  go_wp2_with fail
  go_ret
  exact HF.out

theorem happens_calls {c x : Nat} (hc : g.c = c) (hx : r.g.c = x) (B : Both g r S w) (ok : S.Ok) (nf : S.Nf) {N : Nat} (sm : S.Small N) (p : Ev) (hN : N + 250 * (1 + p.b.length) ≤ 1099511000000) (hl : p.b.length ≤ 1000000) (hwt : r.wt.length ≤ 1000000) (hwf : p.wf) (ba : Option Addr) (bc : Nat)
    (i1 : BIn g.ρ w ba p.b) (i2 : BIn r.g.ρ w ba p.b) :
    Calls Tryd.prog 18 #[.pointer (some ⟨c, 0, none⟩), .pointer (some ⟨x, 0, none⟩), .agg #[.int .i64 p.d, .int .i64 p.t, .slice ba p.b.length bc]] w (HapPost g r (S.ev p) (r.wt.length + p.b.length) w) := by
  obtain ⟨d, t, l⟩ := p
  simp only at hN hl i1 i2 ⊢
  have up : ∀ {T : CS} {e : Ending} {w' : World}, HapPost g r T r.wt.length w e w' → HapPost g r T (r.wt.length + l.length) w e w' := fun ⟨h1, g', r', h2, h3, h4⟩ => ⟨h1, g', r', h2, h3, by omega⟩
  have bi : ∀ W, St2 g r g r w W → BIn g.ρ W ba l := fun W s => by
    rcases i1 with q | ⟨b, off, ha, hr, hb, hcell⟩
    · exact .inl q
    · rcases i2 with q | ⟨b', off', ha', hr', -, -⟩
      · exact .inl q
      · rw [ha] at ha'
        have hbb : b = b' := congrArg Addr.block (Option.some.inj ha')
        refine .inr ⟨b, off, ha, hr, Nat.lt_of_lt_of_le hb s.turn.size, fun i hi => ?_⟩
        have h5 := s.turn.cell (p := ⟨b, off + i, none⟩) (by simp [hr]; rw [hbb]; exact hr') hb
        rw [h5]; exact hcell i hi
  have bi2 : ∀ W g1, St2 g r g1 r w W → BIn r.g.ρ W ba l := fun W g1 s => by
    rcases i1 with q | ⟨b, off, ha, hr, hb, hcell⟩
    · exact .inl q
    · rcases i2 with q | ⟨b', off', ha', hr', -, -⟩
      · exact .inl q
      · rw [ha] at ha'
        have hbb : b = b' := congrArg Addr.block (Option.some.inj ha')
        refine .inr ⟨b, off, ha, by rw [hbb]; exact hr', Nat.lt_of_lt_of_le hb s.turn.size, fun i hi => ?_⟩
        have h5 := s.turn.cell (p := ⟨b, off + i, none⟩) (by simp [hr]; rw [hbb]; exact hr') hb
        rw [h5]; exact hcell i hi
  have hsc : S.screen.length ≤ 1099511000000 := Nat.le_trans sm.screen (by omega)
  by_cases d0 : d = 0
  · subst d0
    have e : S.ev ⟨0, t, l⟩ = (S.type l).1 := by unfold CS.ev; rw [if_pos rfl]
    rw [e]
    exact hap_type hc hx B t l ba bc ok sm (by omega) hl hwt i1 i2
  by_cases d1 : d = 1
  · by_cases hr : inR t
    · obtain ⟨k, rfl⟩ := Int.eq_ofNat_of_zero_le (by have := hr.1; omega : 0 ≤ t)
      have e : S.ev ⟨d, (k : Int), l⟩ = S.write k l := by unfold CS.ev; rw [if_neg d0, if_pos d1, if_pos hr, Int.toNat_natCast]
      rw [e]
      have hk1 : 1 ≤ k := by have := hr.1; omega
      have hk2 : k ≤ 99 := by have := hr.2; omega
      exact (hap_write hc hx B d k 0 ba l.length bc r.wt.length d1 (fun W hW s => (write_calls k ba bc l rfl hW ok sm (by omega) hl (bi W s) hk1 hk2).mono fun _ _ h => h.c) (fun W g1 hW s => (rwrite_calls k ba bc l rfl hW ok sm (by omega) hl (bi2 W g1 s) hk1 hk2).mono fun _ _ h => h.x)).mono fun _ _ h => up h
    · have hr' : t < 1 ∨ 99 < t := by unfold inR at hr; omega
      have e : S.ev ⟨d, t, l⟩ = S := by unfold CS.ev; rw [if_neg d0, if_pos d1, if_neg hr]
      rw [e]
      exact (hap_write hc hx B d t 190 ba l.length bc r.wt.length d1 (fun W hW _ => (write_off t hr' ba l.length bc rfl).mono fun _ _ ⟨h1, h2⟩ => ⟨h1, g, by rw [h2]; exact hW, by rw [h2]; exact Step.refl _ _⟩) (fun W g1 hW _ => (rwrite_off t hr' ba l.length bc rfl hW).mono fun _ _ h => h.x)).mono fun _ _ h => up h
  by_cases d2 : d = 2
  · by_cases hr : inR t
    · obtain ⟨k, rfl⟩ := Int.eq_ofNat_of_zero_le (by have := hr.1; omega : 0 ≤ t)
      have e : S.ev ⟨d, (k : Int), l⟩ = S.flush k := by unfold CS.ev; rw [if_neg d0, if_neg d1, if_pos d2, if_pos hr, Int.toNat_natCast]
      rw [e]
      have hk1 : 1 ≤ k := by have := hr.1; omega
      have hk2 : k ≤ 99 := by have := hr.2; omega
      exact (hap_flush hc hx B d k 0 ba l.length bc r.wt.length d2 (fun W hW _ => (flush_calls k rfl hW ok hsc hk1 hk2).mono fun _ _ h => h.c) (fun W g1 hW _ => (rflush_calls k rfl hW ok hsc hk1 hk2).mono fun _ _ h => h.x)).mono fun _ _ h => up h
    · have hr' : t < 1 ∨ 99 < t := by unfold inR at hr; omega
      have e : S.ev ⟨d, t, l⟩ = S := by unfold CS.ev; rw [if_neg d0, if_neg d1, if_pos d2, if_neg hr]
      rw [e]
      exact (hap_flush hc hx B d t 190 ba l.length bc r.wt.length d2 (fun W hW _ => (flush_off t hr' rfl).mono fun _ _ ⟨h1, h2⟩ => ⟨h1, g, by rw [h2]; exact hW, by rw [h2]; exact Step.refl _ _⟩) (fun W g1 hW _ => (rflush_off t hr' rfl hW).mono fun _ _ h => h.x)).mono fun _ _ h => up h
  by_cases d3 : d = 3
  · subst d3
    have e : S.ev ⟨3, t, l⟩ = (S.read t).1 := by unfold CS.ev; rw [if_neg (show ¬ (3 : Int) = 0 by decide), if_neg (show ¬ (3 : Int) = 1 by decide), if_neg (show ¬ (3 : Int) = 2 by decide), if_pos rfl]
    rw [e]
    exact (hap_read hc hx B t hwf.2 ba l.length bc hwt).mono fun _ _ h => up h
  · have e : S.ev ⟨d, t, l⟩ = S.asked t := by unfold CS.ev; rw [if_neg d0, if_neg d1, if_neg d2, if_neg d3]
    rw [e]
    by_cases hr : inR t
    · obtain ⟨k, rfl⟩ := Int.eq_ofNat_of_zero_le (by have := hr.1; omega : 0 ≤ t)
      have hk1 : 1 ≤ k := by have := hr.1; omega
      have hk2 : k ≤ 99 := by have := hr.2; omega
      exact (hap_flags hc hx B d k (S.flags k) ba l.length bc r.wt.length ⟨d0, d1, d2, d3⟩ (fun W hW _ => (flags_calls k hwf.2 rfl hW).mono fun _ _ h => h.c) (fun W g1 hW _ => (rflags_calls k rfl hW hk1 hk2).mono fun _ _ h => h.x)).mono fun _ _ h => up h
    · have hr' : t < 1 ∨ 99 < t := by unfold inR at hr; omega
      have ea := CS.asked_off nf hr
      have hf := nf t hr
      rw [ea]
      exact (hap_flags hc hx B d t 0 ba l.length bc r.wt.length ⟨d0, d1, d2, d3⟩ (fun W hW _ => (flags_calls t hwf.2 rfl hW).mono fun _ _ h => by rw [ea, hf] at h; exact h.c) (fun W g1 hW _ => (rflags_off t hr' rfl hW).mono fun _ _ h => h.x)).mono fun _ _ h => up h
end
end Go.Con
