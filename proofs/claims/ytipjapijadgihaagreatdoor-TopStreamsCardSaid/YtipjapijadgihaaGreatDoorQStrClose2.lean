/-
  Close of a writer, of a pipe's ends, walked.
-/
import Derived.Test.YtipjapijadgihaaGreatDoorQStrClose
set_option linter.unusedVariables false

namespace Go.Str
open Go.Own Go.RowKit Go.Proofs

section
variable {g g' : Gh} {S : SS} {w w' : World}

set_option maxRecDepth 10000 in
set_option maxHeartbeats 2000000 in
theorem wclose_calls {nb sb fm : Nat} {path : Bytes} {v : Value} {F : ByteArray → Option Value} (hb : w.heap[nb]? = some (.cells #[.string (bs path), v, .int .i64 20000] 95 (0, 0))) (hs : w.cell? ⟨sb, 0, none⟩ = some (.map (some fm))) (hm : MapST w fm F) (hp : path.length ≤ 1000) :
    Calls Tryz.prog 216 #[pt nb, pt sb] w fun e w' => e = .returned (.tuple #[]) ∧ MapST w' fm (updT F (bs path) (some v)) ∧ Turn (fun k => k = fm) w w' := by
  have d0 : w.cell? ⟨nb, 0, none⟩ = some (.string (bs path)) := cell_at hb rfl
  have d1 : w.cell? ⟨nb, 1, none⟩ = some v := cell_at hb rfl
  have H := Lib.hid hm
  clear hb hm
  go_enter Tryz.func216, Tryz.ntmps216
  go_still_tail 13, (by kernel_rfl)
  change wpList _ _ _ _ _ w.drew
  have hM5 : MapST w.drew fm F := H.out.keep rfl
  refine wpList_updateST rfl _ _ _ rfl Tryz.underlying9 Tryz.underlying75 rfl hM5 rfl (by rw [bs_size]; unfold maxLen; omega) rfl ?_
  intro w5 hM6 ht6 hs6
  have HF := Lib.hid (And.intro hM6 ht6.drew_left)
  clear hM5 hM6 ht6 hs6
  go_wp2_with fail
  go_end0
  exact ⟨rfl, HF.out⟩

set_option maxRecDepth 10000 in
set_option maxHeartbeats 4000000 in
theorem close_wr_w (h : Rep g S w) {sb : Nat} (hs : g.s = sb) {i : Int} {path b : Bytes} (hx : S.handles i = some (.wr path b)) (hl : S.last ≤ 1000) (hp : path.length ≤ 1000) :
    Walked Tryz.prog Tryz.f11 #[pt sb, .int .i64 i] w (ClosePost g { S with handles := upd S.handles i none, files := updB S.files path (some b) } w) := by
  subst hs
  obtain ⟨-, -, -, c3, -, -⟩ := s_cells h.base.sb
  have hlk := h.lookup_handle hx hl
  obtain ⟨t2, ⟨v, hb, hv⟩, l1, l2⟩ := h.handles.hd i _ hx
  simp only [hval] at hlk
  obtain ⟨nb, hnb⟩ : ∃ nb, g.hb i = nb := ⟨_, rfl⟩
  rw [hnb] at hlk hb t2
  have H := Lib.hid (And.intro h (And.intro hb (And.intro hv t2)))
  have hmt := meth_wr
  have hen := enter_wr
  clear h hx hb hv hnb t2
  refine ⟨_, rfl, ?_⟩
  simp only [Tryz.ntmps11, List.size_toArray, List.length_cons, List.length_nil, Nat.reduceAdd, Nat.reduceSub, Array.replicate_succ,
    Array.replicate_zero, List.push_toArray, List.append_toArray, List.nil_append, List.cons_append]
  go_wp2_with (refine wpList_deleteS rfl _ _ rfl Tryz.underlying3 Tryz.underlying78 rfl H.out.1.handles.m rfl (wf_i64 (by omega) (by omega)) ?_; intro w1 hm1 ht1 hz1; have HM := Lib.hid (And.intro hm1 (And.intro ht1 hz1)); clear hm1 ht1 hz1)
  obtain ⟨R1, S1⟩ := H.out.1.remove HM.out.2.1 HM.out.1
  obtain ⟨e0, -, -, -, -, -⟩ := s_cells R1.base.sb
  have htm := H.out.1.base.th
  have hb1 : w1.heap[nb]? = some (.cells #[.string (bs path), v, .int .i64 20000] 95 (0, 0)) := by
    rw [HM.out.2.1.block nb (heap_lt H.out.2.1) (fun e => by have := H.out.2.2.2; rw [e, htm] at this; cases this)]
    exact H.out.2.1
  have hv1 : SliceT g.ρ (3, i) w1 v (bcells b) := ⟨H.out.2.2.1.1.turn HM.out.2.1 (fun k hk e => by have := H.out.2.2.1.2 k hk; rw [e, htm] at this; cases this), H.out.2.2.1.2⟩
  have HR := Lib.hid (And.intro R1 (And.intro S1 hv1))
  have hC := wclose_calls hb1 e0 R1.files.m hp
  have HC := Lib.hid hC
  clear R1 S1 hv1 hC hb1 e0 htm
  refine HC.out.mono ?_
  rintro e1 w2 ⟨rfl, hm2, ht2⟩
  have HF := Lib.hid (And.intro hm2 ht2)
  clear hm2 ht2
  go_wp2_with fail
  go_ret
  obtain ⟨R2, S2⟩ := HR.out.1.add_file (i := i) (path := path) (b := b) (v := v) (upd_self _ _ _) HR.out.2.2 HF.out.2 HF.out.1
  exact ⟨rfl, _, R2, HR.out.2.1.trans S2⟩

theorem close_wr (h : Rep g S w) {sb : Nat} (hs : g.s = sb) {i : Int} {path b : Bytes} (hx : S.handles i = some (.wr path b)) (hl : S.last ≤ 1000) (hp : path.length ≤ 1000) :
    Calls Tryz.prog 11 #[pt sb, .int .i64 i] w (ClosePost g { S with handles := upd S.handles i none, files := updB S.files path (some b) } w) :=
  (close_wr_w h hs hx hl hp).calls Tryz.func11

set_option maxRecDepth 10000 in
set_option maxHeartbeats 2000000 in
theorem eclose_write {nb pb sb : Nat} {nm v : Value} {a b c : Bool} (hn : w.heap[nb]? = some (.cells #[nm, pt pb, .bool false] 104 (0, 0))) (hp : w.heap[pb]? = some (.cells #[v, .int .i64 64, .bool a, .bool b, .bool c, .bool true] 106 (0, 0))) (_hne : nb ≠ pb) :
    Calls Tryz.prog 218 #[pt nb, pt sb] w fun e w' => e = .returned (.tuple #[]) ∧ w' = w.setCell ⟨pb, 3, none⟩ (.bool false) := by
  have d1 : w.cell? ⟨nb, 1, none⟩ = some (pt pb) := cell_at hn rfl
  have d2 : w.cell? ⟨nb, 2, none⟩ = some (.bool false) := cell_at hn rfl
  have f3 : w.cell? ⟨pb, 3, none⟩ = some (.bool b) := cell_at hp rfl
  have f5 : w.cell? ⟨pb, 5, none⟩ = some (.bool true) := cell_at hp rfl
  have ff : ∀ i, w.frozen? ⟨pb, i, none⟩ = false := fun i => frozen_at hp
  clear hn hp
  go_enter Tryz.func218, Tryz.ntmps218
  go_wp2_with fail
  go_end0
  exact ⟨rfl, rfl⟩

set_option maxRecDepth 10000 in
set_option maxHeartbeats 2000000 in
theorem eclose_read {nb pb sb pm : Nat} {name : Bytes} {v : Value} {c : Bool} {F : ByteArray → Option Value} (hn : w.heap[nb]? = some (.cells #[.string (bs name), pt pb, .bool true] 104 (0, 0))) (hp : w.heap[pb]? = some (.cells #[v, .int .i64 64, .bool true, .bool false, .bool true, .bool c] 106 (0, 0))) (hne : nb ≠ pb) (hsp : sb ≠ pb) (hmp : pm ≠ pb)
    (hs : w.cell? ⟨sb, 1, none⟩ = some (.map (some pm))) (hm : MapST w pm F) (hl : name.length ≤ 1000) :
    Calls Tryz.prog 218 #[pt nb, pt sb] w fun e w' => e = .returned (.tuple #[]) ∧ MapST w' pm (updT F (bs name) none) ∧ Turn (fun k => k = pm) (w.setCell ⟨pb, 5, none⟩ (.bool false)) w' := by
  obtain ⟨w1, hw1⟩ : ∃ w1, w.setCell ⟨pb, 5, none⟩ (.bool false) = w1 := ⟨_, rfl⟩
  have hn1 : w1.heap[nb]? = some (.cells #[.string (bs name), pt pb, .bool true] 104 (0, 0)) := by rw [← hw1, heap_setCell_ne _ hne]; exact hn
  have hp1 : w1.heap[pb]? = some (.cells #[v, .int .i64 64, .bool true, .bool false, .bool true, .bool false] 106 (0, 0)) := by rw [← hw1]; exact heap_setCell_self _ hp
  have d1 : w.cell? ⟨nb, 1, none⟩ = some (pt pb) := cell_at hn rfl
  have d2 : w.cell? ⟨nb, 2, none⟩ = some (.bool true) := cell_at hn rfl
  have f5 : w.cell? ⟨pb, 5, none⟩ = some (.bool c) := cell_at hp rfl
  have ff : ∀ i, w.frozen? ⟨pb, i, none⟩ = false := fun i => frozen_at hp
  have a0 : w1.cell? ⟨nb, 0, none⟩ = some (.string (bs name)) := cell_at hn1 rfl
  have a1 : w1.cell? ⟨nb, 1, none⟩ = some (pt pb) := cell_at hn1 rfl
  have b2 : w1.cell? ⟨pb, 2, none⟩ = some (.bool true) := cell_at hp1 rfl
  have b3 : w1.cell? ⟨pb, 3, none⟩ = some (.bool false) := cell_at hp1 rfl
  have b4 : w1.cell? ⟨pb, 4, none⟩ = some (.bool true) := cell_at hp1 rfl
  have b5 : w1.cell? ⟨pb, 5, none⟩ = some (.bool false) := cell_at hp1 rfl
  have s1 : w1.cell? ⟨sb, 1, none⟩ = some (.map (some pm)) := by
    rw [← hw1, World.cell?_setCell_other _ _ _ _ (fun e => hsp (congrArg Addr.block e).symm)]
    exact hs
  have hm1 : MapST w1 pm F := hm.keep (by rw [← hw1]; exact heap_setCell_ne _ hmp)
  have H := Lib.hid (And.intro hm1 hmp)
  have HW := Lib.hid hw1
  rw [hw1]
  clear hn hp hn1 hp1 hm hm1 hs hw1
  go_enter Tryz.func218, Tryz.ntmps218
  go_upto_region 3 with fail
  rw [HW.out]
  clear HW d1 d2 f5 ff
  go_upto_region 4 with fail
  go_still_tail 8, (by kernel_rfl)
  change wpList _ _ _ _ _ w1.drew
  have hM5 : MapST w1.drew pm F := H.out.1.keep rfl
  refine wpList_deleteST rfl _ _ rfl Tryz.underlying9 Tryz.underlying76 rfl hM5 rfl (by rw [bs_size]; unfold maxLen; omega) ?_
  intro w5 hM6 ht6 hs6
  have HF := Lib.hid (And.intro hM6 ht6.drew_left)
  clear hM5 hM6 ht6 hs6
  go_wp2_with fail
  go_end0
  exact ⟨rfl, HF.out⟩

set_option maxRecDepth 10000 in
set_option maxHeartbeats 4000000 in
theorem close_en1 (h : Rep g S w) {sb : Nat} (hs : g.s = sb) {i : Int} {name : Bytes} {x : Pp} (hx : S.handles i = some (.en name false)) (hp : S.pipes name = some x) (hl : S.last ≤ 1000) (hrd : x.reading = true) :
    Calls Tryz.prog 11 #[pt sb, .int .i64 i] w (ClosePost g { S with handles := upd S.handles i none, pipes := updB S.pipes name (some { x with writing := false }) } w) := by
  subst hs
  obtain ⟨-, -, -, c3, -, -⟩ := s_cells h.base.sb
  have hlk := h.lookup_handle hx hl
  obtain ⟨t2, hat, l1, l2⟩ := h.handles.hd i _ hx
  have hat' : w.heap[g.hb i]? = some (.cells #[.string (bs name), pt (g.pb name), .bool false] 104 (0, 0)) := hat
  obtain ⟨t5, v, hb, hv⟩ := h.pipes.pipe name x hp
  simp only [hval] at hlk
  obtain ⟨nb, hnb⟩ : ∃ nb, g.hb i = nb := ⟨_, rfl⟩
  obtain ⟨pb, hpb⟩ : ∃ pb, g.pb name = pb := ⟨_, rfl⟩
  rw [hnb] at hlk hat' t2
  rw [hpb] at hat' hb t5
  have H := Lib.hid (And.intro h (And.intro hat' (And.intro hb (And.intro hv (And.intro t2 (And.intro t5 (And.intro hpb (And.intro hp hrd))))))))
  have hmt := meth_en
  have hen := enter_en
  clear h hx hb hv hnb t2 t5 hat hat' hpb hp hrd
  go_enter Tryz.func11, Tryz.ntmps11
  go_wp2_with (refine wpList_deleteS rfl _ _ rfl Tryz.underlying3 Tryz.underlying78 rfl H.out.1.handles.m rfl (wf_i64 (by omega) (by omega)) ?_; intro w1 hm1 ht1 hz1; have HM := Lib.hid (And.intro hm1 (And.intro ht1 hz1)); clear hm1 ht1 hz1)
  obtain ⟨R1, S1⟩ := H.out.1.remove HM.out.2.1 HM.out.1
  have htm := H.out.1.base.th
  have hn1 : w1.heap[nb]? = some (.cells #[.string (bs name), pt pb, .bool false] 104 (0, 0)) := by
    rw [HM.out.2.1.block nb (heap_lt H.out.2.1) (fun e => by have := H.out.2.2.2.2.1; rw [e, htm] at this; cases this)]
    exact H.out.2.1
  have hb1 := H.out.2.2.1
  rw [H.out.2.2.2.2.2.2.2.2] at hb1
  have hb2 : w1.heap[pb]? = some (.cells #[v, .int .i64 64, .bool x.wrote, .bool x.writing, .bool x.read, .bool true] 106 (0, 0)) := by
    rw [HM.out.2.1.block pb (heap_lt hb1) (fun e => by have := H.out.2.2.2.2.2.1; rw [e, htm] at this; cases this)]
    exact hb1
  have hne : nb ≠ pb := fun e => by have t1 := H.out.2.2.2.2.1; have t2 := H.out.2.2.2.2.2.1; rw [e, t2] at t1; cases t1
  have HR := Lib.hid (And.intro R1 (And.intro S1 hb2))
  have HC := Lib.hid (eclose_write (sb := g.s) hn1 hb2 hne)
  clear R1 S1 hn1 hb1 hb2 hne htm
  refine HC.out.mono ?_
  rintro e1 w2 ⟨rfl, rfl⟩
  go_wp2_with fail
  go_ret
  have hpb := H.out.2.2.2.2.2.2.1
  subst hpb
  have T3 : Turn (fun k => k = g.pb name ∨ g.ρ k = (6, 0)) w1 (w1.setCell ⟨g.pb name, 3, none⟩ (.bool false)) := (Turn.refl _ w1).setCell (p := ⟨g.pb name, 3, none⟩) (fun _ => .inl rfl) _
  have hv1 : SliceT g.ρ (6, 0) (w1.setCell ⟨g.pb name, 3, none⟩ (.bool false)) v (bcells x.b) := by
    refine ⟨(H.out.2.2.2.1.1.turn HM.out.2.1 (fun k hk e => by have := H.out.2.2.2.1.2 k hk; rw [e, H.out.1.base.th] at this; cases this)).keep fun k hk => heap_setCell_ne _ fun e => ?_, H.out.2.2.2.1.2⟩
    have h1 := H.out.2.2.2.1.2 k hk
    have h2 := H.out.2.2.2.2.2.1
    dsimp only at e
    rw [e, h2] at h1
    cases h1
  obtain ⟨R2, S2⟩ := HR.out.1.set_pipe (x' := { x with writing := false }) (v' := v) (ρ' := g.ρ) H.out.2.2.2.2.2.2.2.1 T3 (fun _ _ => rfl) (fun k hk => HR.out.1.base.fresh k (by simpa using hk)) (by
    have := heap_setCell_self (i := 3) (.bool false) HR.out.2.2
    rw [H.out.2.2.2.2.2.2.2.2]
    exact this) hv1
  exact ⟨rfl, _, R2, HR.out.2.1.trans S2⟩

set_option maxRecDepth 10000 in
set_option maxHeartbeats 4000000 in
theorem close_en2 (h : Rep g S w) {sb : Nat} (hs : g.s = sb) {i : Int} {name : Bytes} {x : Pp} (hx : S.handles i = some (.en name true)) (hp : S.pipes name = some x) (hl : S.last ≤ 1000) (hnl : name.length ≤ 1000) (hwr : x.wrote = true) (hwg : x.writing = false) (hrd : x.read = true)
    (hno : ∀ j r, j ≠ i → S.handles j ≠ some (.en name r)) :
    Calls Tryz.prog 11 #[pt sb, .int .i64 i] w (ClosePost g { S with handles := upd S.handles i none, pipes := updB S.pipes name none } w) := by
  subst hs
  obtain ⟨-, -, -, c3, -, -⟩ := s_cells h.base.sb
  have hlk := h.lookup_handle hx hl
  obtain ⟨t2, hat, l1, l2⟩ := h.handles.hd i _ hx
  have hat' : w.heap[g.hb i]? = some (.cells #[.string (bs name), pt (g.pb name), .bool true] 104 (0, 0)) := hat
  obtain ⟨t5, v, hb, hv⟩ := h.pipes.pipe name x hp
  simp only [hval] at hlk
  obtain ⟨nb, hnb⟩ : ∃ nb, g.hb i = nb := ⟨_, rfl⟩
  obtain ⟨pb, hpb⟩ : ∃ pb, g.pb name = pb := ⟨_, rfl⟩
  rw [hnb] at hlk hat' t2
  rw [hpb] at hat' hb t5
  rw [hwr, hwg, hrd] at hb
  have H := Lib.hid (And.intro h (And.intro hat' (And.intro hb (And.intro hv (And.intro t2 (And.intro t5 (And.intro hpb (And.intro hp hno))))))))
  have HX := Lib.hid (And.intro hwr (And.intro hwg hrd))
  have hmt := meth_en
  have hen := enter_en
  clear h hx hb hv hnb t2 t5 hat hat' hpb hp hrd hwr hwg hno
  go_enter Tryz.func11, Tryz.ntmps11
  go_wp2_with (refine wpList_deleteS rfl _ _ rfl Tryz.underlying3 Tryz.underlying78 rfl H.out.1.handles.m rfl (wf_i64 (by omega) (by omega)) ?_; intro w1 hm1 ht1 hz1; have HM := Lib.hid (And.intro hm1 (And.intro ht1 hz1)); clear hm1 ht1 hz1)
  obtain ⟨R1, S1⟩ := H.out.1.remove HM.out.2.1 HM.out.1
  have htm := H.out.1.base.th
  have hn1 : w1.heap[nb]? = some (.cells #[.string (bs name), pt pb, .bool true] 104 (0, 0)) := by
    rw [HM.out.2.1.block nb (heap_lt H.out.2.1) (fun e => by have := H.out.2.2.2.2.1; rw [e, htm] at this; cases this)]
    exact H.out.2.1
  have hb2 : w1.heap[pb]? = some (.cells #[v, .int .i64 64, .bool true, .bool false, .bool true, .bool x.reading] 106 (0, 0)) := by
    rw [HM.out.2.1.block pb (heap_lt H.out.2.2.1) (fun e => by have := H.out.2.2.2.2.2.1; rw [e, htm] at this; cases this)]
    exact H.out.2.2.1
  have t5 := H.out.2.2.2.2.2.1
  have hne : nb ≠ pb := fun e => by have t1 := H.out.2.2.2.2.1; rw [e, t5] at t1; cases t1
  have hsp : g.s ≠ pb := fun e => by have t1 := H.out.1.base.ts; rw [e, t5] at t1; cases t1
  have hmp : g.pm ≠ pb := fun e => by have t1 := H.out.1.base.tp; rw [e, t5] at t1; cases t1
  obtain ⟨-, e1, -, -, -, -⟩ := s_cells R1.base.sb
  have HR := Lib.hid (And.intro R1 (And.intro S1 hb2))
  have HC := Lib.hid (eclose_read (sb := g.s) hn1 hb2 hne hsp hmp e1 R1.pipes.m hnl)
  clear R1 S1 hn1 hb2 hne htm hsp hmp e1 t5
  refine HC.out.mono ?_
  rintro e1 w2 ⟨rfl, hm2, ht2⟩
  have HF := Lib.hid (And.intro hm2 ht2)
  clear hm2 ht2
  go_wp2_with fail
  go_ret
  have hpb := H.out.2.2.2.2.2.2.1
  subst hpb
  have T3 : Turn (fun k => k = g.pb name ∨ g.ρ k = (6, 0)) w1 (w1.setCell ⟨g.pb name, 5, none⟩ (.bool false)) := (Turn.refl _ w1).setCell (p := ⟨g.pb name, 5, none⟩) (fun _ => .inl rfl) _
  have hv1 : SliceT g.ρ (6, 0) (w1.setCell ⟨g.pb name, 5, none⟩ (.bool false)) v (bcells x.b) := by
    refine ⟨(H.out.2.2.2.1.1.turn HM.out.2.1 (fun k hk e => by have := H.out.2.2.2.1.2 k hk; rw [e, H.out.1.base.th] at this; cases this)).keep fun k hk => heap_setCell_ne _ fun e => ?_, H.out.2.2.2.1.2⟩
    have h1 := H.out.2.2.2.1.2 k hk
    have h2 := H.out.2.2.2.2.2.1
    dsimp only at e
    rw [e, h2] at h1
    cases h1
  obtain ⟨R2, S2⟩ := HR.out.1.set_pipe (x' := { x with reading := false }) (v' := v) (ρ' := g.ρ) H.out.2.2.2.2.2.2.2.1 T3 (fun _ _ => rfl) (fun k hk => HR.out.1.base.fresh k (by simpa using hk)) (by
    have := heap_setCell_self (i := 5) (.bool false) HR.out.2.2
    rw [HX.out.1, HX.out.2.1, HX.out.2.2]
    exact this) hv1
  have hm3 : MapST w2 g.pm (updT (kp { g with ρ := g.ρ } (updB S.pipes name (some { x with reading := false }))) (bs name) none) := by
    have e : updT (kp { g with ρ := g.ρ } (updB S.pipes name (some { x with reading := false }))) (bs name) none = updT (kp g S.pipes) (bs name) none := by
      funext k
      by_cases e : k = bs name
      · subst e; rw [upd_selfT, upd_selfT]
      · rw [upd_neT _ _ e, upd_neT _ _ e]
        have e' : k.data.toList ≠ name := fun e2 => e (by rw [← e2])
        show (updB S.pipes name _ k.data.toList).map _ = (S.pipes k.data.toList).map _
        rw [updB_ne _ _ e']
    rw [e]
    exact HF.out.1
  obtain ⟨R3, S3⟩ := R2.rm_pipe (name := name) (x := { x with reading := false }) (updB_self _ _ _) (fun j r => by
    by_cases e : j = i
    · subst e
      show upd S.handles j none j ≠ _
      rw [upd_self]
      intro e2; cases e2
    · show upd S.handles i none j ≠ _
      rw [upd_ne _ _ e]
      exact H.out.2.2.2.2.2.2.2.2 j r e) HF.out.2 hm3
  refine ⟨rfl, _, ?_, (HR.out.2.1.trans S2).trans S3⟩
  have e : updB (updB S.pipes name (some { x with reading := false })) name none = updB S.pipes name none := by
    funext q
    unfold updB
    split <;> rfl
  have R3' := R3
  dsimp only at R3'
  rw [e] at R3'
  exact R3'
end
end Go.Str
