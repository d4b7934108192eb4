/-
  Read from a file's reader, walked.
-/
import Derived.Test.YtipjapijadgihaaGreatDoorQStrWrite2
set_option linter.unusedVariables false

namespace Go.Str
open Go.Own Go.RowKit Go.Proofs

section
variable {g g' : Gh} {S : SS} {w w' : World}

/-- What a reading gives: bytes of its own. -/
def ReadPost (g : Gh) (S' : SS) (b : Bytes) (w : World) (e : Ending) (w' : World) : Prop :=
  ∃ u g', e = .returned (.tuple #[u, .bool false, .int .i64 0]) ∧ SliceAt w' 5 1 u (bcells b) ∧ (∀ k, u.ownBlock = some k → w.heap.size ≤ k ∧ (g'.ρ k).1 = 0) ∧ Rep g' S' w' ∧ Step g g' w w'

theorem Rep.take_rd (h : Rep g S w) {i : Int} {path b : Bytes} {m : Nat} {v v' : Value} {w1 : World} (hx : S.handles i = some (.rd path b)) (hb : w.heap[g.hb i]? = some (.cells #[.string (bs path), v, .int .i64 20000] 132 (0, 0))) (hv : SliceT g.ρ (4, 0) w v (bcells b))
    (T : Turn (fun _ => False) w w1) (hs1 : SliceAt w1 5 1 v' (bcells (b.drop m))) (ho : v'.ownBlock = v.ownBlock) :
    Rep g { S with handles := upd S.handles i (some (.rd path (b.drop m))) } (w1.setCell ⟨g.hb i, 1, none⟩ v') ∧ Step g g w (w1.setCell ⟨g.hb i, 1, none⟩ v') := by
  obtain ⟨t2, -, -, -⟩ := h.handles.hd i _ hx
  have hlt := heap_lt hb
  have T2 : Turn (fun k => k = g.hb i ∨ g.ρ k = (3, i)) w (w1.setCell ⟨g.hb i, 1, none⟩ v') := (T.mono fun k _ e => e.elim).setCell (fun _ => .inl rfl) _
  have hb1 : w1.heap[g.hb i]? = some (.cells #[.string (bs path), v, .int .i64 20000] 132 (0, 0)) := by rw [T.block _ hlt (fun e => e)]; exact hb
  refine h.set_handle (ρ' := g.ρ) (x' := .rd path (b.drop m)) hx rfl (fun _ _ e => by cases e) T2 (fun _ _ => rfl) (fun k hk => h.base.fresh k (by have := T2.size; omega)) ⟨v', heap_setCell_self _ hb1, ?_, fun k hk => ?_⟩
  · refine hs1.keep fun k hk => heap_setCell_ne _ fun e => ?_
    rw [ho] at hk
    have := hv.2 k hk
    dsimp only at e
    rw [e, t2] at this
    cases this
  · rw [ho] at hk
    exact hv.2 k hk

set_option maxRecDepth 10000 in
set_option maxHeartbeats 4000000 in
theorem read_rd (h : Rep g S w) {sb : Nat} (hs : g.s = sb) {i : Int} {path b : Bytes} {n : Nat} (hx : S.handles i = some (.rd path b)) (hl : S.last ≤ 1000) (hb0 : b ≠ []) (hbl : b.length ≤ 100000) (hn1 : 1 ≤ n) (hn2 : n ≤ 10000) :
    Calls Tryz.prog 21 #[pt sb, .int .i64 i, .int .i64 n] w (ReadPost g { S with handles := upd S.handles i (some (.rd path (b.drop (min n b.length)))) } (b.take (min n b.length)) w) := by
  subst hs
  obtain ⟨-, -, -, c3, -, -⟩ := s_cells h.base.sb
  have hlk := h.lookup_handle hx hl
  obtain ⟨t2, ⟨v, hb, hv⟩, -, -⟩ := h.handles.hd i _ hx
  obtain ⟨nb, hnb⟩ : ∃ nb, g.hb i = nb := ⟨_, rfl⟩
  simp only [hval] at hlk
  rw [hnb] at hlk hb t2
  obtain ⟨va, vc, rfl, -, -⟩ := bytes_form hv.1
  simp only [bcells_length] at hb hv ⊢
  have d1 : w.cell? ⟨nb, 1, none⟩ = some (.slice va b.length vc) := cell_at hb rfl
  have d2 : w.cell? ⟨nb, 2, none⟩ = some (.int .i64 20000) := cell_at hb rfl
  have hta := run_assert_yes (P := Tryz.prog) w (x := 86) (a := 131) (pt nb) Tryz.underlying131
  have hP := rowtake_calls (b := nb) (o := 1) (k := n) hv.1 d1 (frozen_at hb) hbl rfl (by omega)
  have H := Lib.hid (And.intro h (And.intro hx (And.intro t2 (And.intro hb (And.intro hv (And.intro hP hnb))))))
  have hpos := List.length_pos_iff.2 hb0
  have q1 : decide ((n : Int) < 1) = false := decide_eq_false (by omega)
  have q2 : decide ((10000 : Int) < (n : Int)) = false := decide_eq_false (by omega)
  have q3 : ((b.length : Int) == 0) = false := beq_eq_false_iff_ne.2 (by omega)
  have q3' : b ≠ [] := hb0
  clear h hx t2 hb hv hP hnb hb0
  go_enter Tryz.func21, Tryz.ntmps21
  go_wp2_with fail
  refine H.out.2.2.2.2.2.1.mono ?_
  rintro e1 w1 ⟨w2, v', u, rfl, rfl, hu, ho, T, hs2, ho2⟩
  have HP := Lib.hid (And.intro hu (And.intro ho (And.intro T (And.intro hs2 ho2))))
  clear hu ho T hs2 ho2
  go_wp2_with fail
  go_ret3
  have hnb := H.out.2.2.2.2.2.2
  subst hnb
  obtain ⟨h1, h2⟩ := H.out.1.take_rd H.out.2.1 H.out.2.2.2.1 H.out.2.2.2.2.1 HP.out.2.2.1 HP.out.2.2.2.1 HP.out.2.2.2.2
  refine ⟨u, g, rfl, ?_, fun k hk => ⟨HP.out.2.1 k hk, H.out.1.base.fresh k (HP.out.2.1 k hk)⟩, h1, h2⟩
  refine HP.out.1.keep fun k hk => heap_setCell_ne _ fun e => ?_
  have := HP.out.2.1 k hk
  have := heap_lt H.out.2.2.2.1
  dsimp only at e
  omega

/-- The end of a stream. -/
def EndPost (g : Gh) (S : SS) (w : World) (e : Ending) (w' : World) : Prop :=
  e = .returned (.tuple #[.slice none 0 0, .bool true, .int .i64 0]) ∧ Rep g S w' ∧ Turn (fun _ => False) w w'
/-- Nothing to be read yet. -/
def StatePost (g : Gh) (S : SS) (w : World) (e : Ending) (w' : World) : Prop :=
  e = .returned (.tuple #[.slice none 0 0, .bool false, .int .i64 5]) ∧ Rep g S w' ∧ Turn (fun _ => False) w w'

set_option maxRecDepth 10000 in
set_option maxHeartbeats 4000000 in
theorem read_rd_end (h : Rep g S w) {sb : Nat} (hs : g.s = sb) {i : Int} {path : Bytes} {n : Nat} (hx : S.handles i = some (.rd path [])) (hl : S.last ≤ 1000) (hn1 : 1 ≤ n) (hn2 : n ≤ 10000) :
    Calls Tryz.prog 21 #[pt sb, .int .i64 i, .int .i64 n] w (EndPost g S w) := by
  subst hs
  obtain ⟨-, -, -, c3, -, -⟩ := s_cells h.base.sb
  have hlk := h.lookup_handle hx hl
  obtain ⟨t2, ⟨v, hb, hv⟩, -, -⟩ := h.handles.hd i _ hx
  obtain ⟨nb, hnb⟩ : ∃ nb, g.hb i = nb := ⟨_, rfl⟩
  simp only [hval] at hlk
  rw [hnb] at hlk hb t2
  obtain ⟨va, vc, rfl, -, -⟩ := bytes_form hv.1
  simp only [bcells_length, List.length_nil] at hb hv ⊢
  have d1 : w.cell? ⟨nb, 1, none⟩ = some (.slice va 0 vc) := cell_at hb rfl
  have hta := run_assert_yes (P := Tryz.prog) w (x := 86) (a := 131) (pt nb) Tryz.underlying131
  have H := Lib.hid h
  have q1 : decide ((n : Int) < 1) = false := decide_eq_false (by omega)
  have q2 : decide ((10000 : Int) < (n : Int)) = false := decide_eq_false (by omega)
  clear h hx t2 hb hv hnb
  go_enter Tryz.func21, Tryz.ntmps21
  go_wp2_with fail
  go_ret3
  exact ⟨rfl, H.out, Turn.refl _ _⟩

theorem Rep.take_en (h : Rep g S w) {name : Bytes} {x : Pp} {m : Nat} {v v' : Value} {w1 : World} (hx : S.pipes name = some x) (hb : w.heap[g.pb name]? = some (.cells #[v, .int .i64 64, .bool x.wrote, .bool x.writing, .bool x.read, .bool x.reading] 106 (0, 0))) (hv : SliceT g.ρ (6, 0) w v (bcells x.b))
    (T : Turn (fun _ => False) w w1) (hs1 : SliceAt w1 5 1 v' (bcells (x.b.drop m))) (ho : v'.ownBlock = v.ownBlock) :
    Rep g { S with pipes := updB S.pipes name (some { x with b := x.b.drop m }) } (w1.setCell ⟨g.pb name, 0, none⟩ v') ∧ Step g g w (w1.setCell ⟨g.pb name, 0, none⟩ v') := by
  obtain ⟨t5, -, -, -⟩ := h.pipes.pipe name x hx
  have hlt := heap_lt hb
  have T2 : Turn (fun k => k = g.pb name ∨ g.ρ k = (6, 0)) w (w1.setCell ⟨g.pb name, 0, none⟩ v') := (T.mono fun k _ e => e.elim).setCell (fun _ => .inl rfl) _
  have hb1 : w1.heap[g.pb name]? = some (.cells #[v, .int .i64 64, .bool x.wrote, .bool x.writing, .bool x.read, .bool x.reading] 106 (0, 0)) := by rw [T.block _ hlt (fun e => e)]; exact hb
  refine h.set_pipe (ρ' := g.ρ) (x' := { x with b := x.b.drop m }) (v' := v') hx T2 (fun _ _ => rfl) (fun k hk => h.base.fresh k (by have := T2.size; omega)) (heap_setCell_self _ hb1) ⟨?_, fun k hk => ?_⟩
  · refine hs1.keep fun k hk => heap_setCell_ne _ fun e => ?_
    rw [ho] at hk
    have := hv.2 k hk
    dsimp only at e
    rw [e, t5] at this
    cases this
  · rw [ho] at hk
    exact hv.2 k hk
end
end Go.Str

/-
  Read from a pipe's end, walked.
-/
namespace Go.Str
open Go.Own Go.RowKit Go.Proofs

section
variable {g g' : Gh} {S : SS} {w w' : World}

set_option maxRecDepth 10000 in
set_option maxHeartbeats 4000000 in
theorem read_en (h : Rep g S w) {sb : Nat} (hs : g.s = sb) {i : Int} {name : Bytes} {x : Pp} {n : Nat} (hx : S.handles i = some (.en name true)) (hp : S.pipes name = some x) (hl : S.last ≤ 1000) (hwr : x.wrote = true) (hb0 : x.b ≠ []) (hbl : x.b.length ≤ 100000) (hn1 : 1 ≤ n) (hn2 : n ≤ 10000) :
    Calls Tryz.prog 21 #[pt sb, .int .i64 i, .int .i64 n] w (ReadPost g { S with pipes := updB S.pipes name (some { x with b := x.b.drop (min n x.b.length) }) } (x.b.take (min n x.b.length)) w) := by
  subst hs
  obtain ⟨-, -, -, c3, -, -⟩ := s_cells h.base.sb
  have hlk := h.lookup_handle hx hl
  obtain ⟨t2, hat, -, -⟩ := h.handles.hd i _ hx
  obtain ⟨t5, v, hb, hv⟩ := h.pipes.pipe name x hp
  have hat' : w.heap[g.hb i]? = some (.cells #[.string (bs name), pt (g.pb name), .bool true] 104 (0, 0)) := hat
  obtain ⟨nb, hnb⟩ : ∃ nb, g.hb i = nb := ⟨_, rfl⟩
  obtain ⟨pb, hpb⟩ : ∃ pb, g.pb name = pb := ⟨_, rfl⟩
  simp only [hval] at hlk
  rw [hnb] at hlk hat' t2
  rw [hpb] at hat' hb t5
  rw [hwr] at hb
  obtain ⟨va, vc, rfl, -, -⟩ := bytes_form hv.1
  simp only [bcells_length] at hb hv ⊢
  have a0 : w.cell? ⟨nb, 1, none⟩ = some (pt pb) := cell_at hat' rfl
  have a1 : w.cell? ⟨nb, 2, none⟩ = some (.bool true) := cell_at hat' rfl
  have d0 : w.cell? ⟨pb, 0, none⟩ = some (.slice va x.b.length vc) := cell_at hb rfl
  have d1 : w.cell? ⟨pb, 1, none⟩ = some (.int .i64 64) := cell_at hb rfl
  have d2 : w.cell? ⟨pb, 2, none⟩ = some (.bool true) := cell_at hb rfl
  have d3 : w.cell? ⟨pb, 3, none⟩ = some (.bool x.writing) := cell_at hb rfl
  have hta := run_assert_no (P := Tryz.prog) w (t := 100) (x := 86) (a := 131) (pt nb) Tryz.underlying131 (by kernel_rfl) (by decide)
  have htc := run_assert_yes (P := Tryz.prog) w (x := 86) (a := 100) (pt nb) Tryz.underlying100
  have q1 : decide ((n : Int) < 1) = false := decide_eq_false (by omega)
  have q2 : decide ((10000 : Int) < (n : Int)) = false := decide_eq_false (by omega)
  have hP := fun k => rowtake_calls (w := w.drewN k) (b := pb) (o := 0) (k := n) (xs := x.b) hv.1 d0 (frozen_at hb) hbl rfl (by omega)
  have hpos := List.length_pos_iff.2 hb0
  have q3 : ((x.b.length : Int) == 0) = false := beq_eq_false_iff_ne.2 (by omega)
  have q3' : x.b ≠ [] := hb0
  have H := Lib.hid (And.intro h (And.intro hp (And.intro hb (And.intro hv (And.intro hP (And.intro hpb hwr))))))
  clear h hx t2 hb hv hP hnb hb0 hat hat' t5 hpb hp hwr
  go_enter Tryz.func21, Tryz.ntmps21
  go_upto_region 15 with fail
  go_quiet (fail)
  go_wp2_with fail
  refine (H.out.2.2.2.2.1 _).mono ?_
  rintro e1 w1 ⟨w2, v', u, rfl, rfl, hu, ho, T, hs2, ho2⟩
  have HP := Lib.hid (And.intro hu (And.intro ho (And.intro T (And.intro hs2 ho2))))
  clear hu ho T hs2 ho2
  go_wp2_with fail
  go_ret3
  have hpb := H.out.2.2.2.2.2.1
  subst hpb
  have hb' := H.out.2.2.1
  rw [← H.out.2.2.2.2.2.2] at hb'
  have T0 : Turn (fun _ => False) w w2 := ⟨HP.out.2.2.1.os, HP.out.2.2.1.tape, HP.out.2.2.1.output, HP.out.2.2.1.size, HP.out.2.2.1.block⟩
  obtain ⟨h1, h2⟩ := H.out.1.take_en H.out.2.1 hb' H.out.2.2.2.1 T0 HP.out.2.2.2.1 HP.out.2.2.2.2
  refine ⟨u, g, rfl, ?_, fun k hk => ⟨HP.out.2.1 k hk, H.out.1.base.fresh k (HP.out.2.1 k hk)⟩, h1, h2⟩
  refine HP.out.1.keep fun k hk => heap_setCell_ne _ fun e => ?_
  have h3 : w.heap.size ≤ k := HP.out.2.1 k hk
  have := heap_lt H.out.2.2.1
  dsimp only at e
  omega

set_option maxRecDepth 10000 in
set_option maxHeartbeats 4000000 in
theorem read_en_none (h : Rep g S w) {sb : Nat} (hs : g.s = sb) {i : Int} {name : Bytes} {x : Pp} {n : Nat} (hx : S.handles i = some (.en name true)) (hp : S.pipes name = some x) (hl : S.last ≤ 1000) (hwr : x.wrote = true) (hb0 : x.b = []) (hn1 : 1 ≤ n) (hn2 : n ≤ 10000) (hop : x.writing = true) :
    Calls Tryz.prog 21 #[pt sb, .int .i64 i, .int .i64 n] w (StatePost g S w) := by
  subst hs
  obtain ⟨-, -, -, c3, -, -⟩ := s_cells h.base.sb
  have hlk := h.lookup_handle hx hl
  obtain ⟨t2, hat, -, -⟩ := h.handles.hd i _ hx
  obtain ⟨t5, v, hb, hv⟩ := h.pipes.pipe name x hp
  have hat' : w.heap[g.hb i]? = some (.cells #[.string (bs name), pt (g.pb name), .bool true] 104 (0, 0)) := hat
  obtain ⟨nb, hnb⟩ : ∃ nb, g.hb i = nb := ⟨_, rfl⟩
  obtain ⟨pb, hpb⟩ : ∃ pb, g.pb name = pb := ⟨_, rfl⟩
  simp only [hval] at hlk
  rw [hnb] at hlk hat' t2
  rw [hpb] at hat' hb t5
  rw [hwr] at hb
  obtain ⟨va, vc, rfl, -, -⟩ := bytes_form hv.1
  simp only [bcells_length, hb0, List.length_nil] at hb hv ⊢
  have a0 : w.cell? ⟨nb, 1, none⟩ = some (pt pb) := cell_at hat' rfl
  have a1 : w.cell? ⟨nb, 2, none⟩ = some (.bool true) := cell_at hat' rfl
  have d0 : w.cell? ⟨pb, 0, none⟩ = some (.slice va 0 vc) := cell_at hb rfl
  have d1 : w.cell? ⟨pb, 1, none⟩ = some (.int .i64 64) := cell_at hb rfl
  have d2 : w.cell? ⟨pb, 2, none⟩ = some (.bool true) := cell_at hb rfl
  have d3 : w.cell? ⟨pb, 3, none⟩ = some (.bool x.writing) := cell_at hb rfl
  have hta := run_assert_no (P := Tryz.prog) w (t := 100) (x := 86) (a := 131) (pt nb) Tryz.underlying131 (by kernel_rfl) (by decide)
  have htc := run_assert_yes (P := Tryz.prog) w (x := 86) (a := 100) (pt nb) Tryz.underlying100
  have q1 : decide ((n : Int) < 1) = false := decide_eq_false (by omega)
  have q2 : decide ((10000 : Int) < (n : Int)) = false := decide_eq_false (by omega)
  rw [hop] at d3
  have H := Lib.hid h
  clear h hx t2 hb hv hnb hb0 hat hat' t5 hpb hp hwr hop
  go_enter Tryz.func21, Tryz.ntmps21
  go_upto_region 15 with fail
  go_quiet (fail)
  go_wp2_with fail
  go_ret3
  have T0 : ∀ k, Turn (fun _ => False) w (w.drewN k) := fun k => ⟨rfl, rfl, rfl, Nat.le_refl _, fun _ _ _ => rfl⟩
  exact ⟨rfl, H.out.new (T0 _), T0 _⟩

set_option maxRecDepth 10000 in
set_option maxHeartbeats 4000000 in
theorem read_en_end (h : Rep g S w) {sb : Nat} (hs : g.s = sb) {i : Int} {name : Bytes} {x : Pp} {n : Nat} (hx : S.handles i = some (.en name true)) (hp : S.pipes name = some x) (hl : S.last ≤ 1000) (hwr : x.wrote = true) (hb0 : x.b = []) (hn1 : 1 ≤ n) (hn2 : n ≤ 10000) (hop : x.writing = false) :
    Calls Tryz.prog 21 #[pt sb, .int .i64 i, .int .i64 n] w (EndPost g S w) := by
  subst hs
  obtain ⟨-, -, -, c3, -, -⟩ := s_cells h.base.sb
  have hlk := h.lookup_handle hx hl
  obtain ⟨t2, hat, -, -⟩ := h.handles.hd i _ hx
  obtain ⟨t5, v, hb, hv⟩ := h.pipes.pipe name x hp
  have hat' : w.heap[g.hb i]? = some (.cells #[.string (bs name), pt (g.pb name), .bool true] 104 (0, 0)) := hat
  obtain ⟨nb, hnb⟩ : ∃ nb, g.hb i = nb := ⟨_, rfl⟩
  obtain ⟨pb, hpb⟩ : ∃ pb, g.pb name = pb := ⟨_, rfl⟩
  simp only [hval] at hlk
  rw [hnb] at hlk hat' t2
  rw [hpb] at hat' hb t5
  rw [hwr] at hb
  obtain ⟨va, vc, rfl, -, -⟩ := bytes_form hv.1
  simp only [bcells_length, hb0, List.length_nil] at hb hv ⊢
  have a0 : w.cell? ⟨nb, 1, none⟩ = some (pt pb) := cell_at hat' rfl
  have a1 : w.cell? ⟨nb, 2, none⟩ = some (.bool true) := cell_at hat' rfl
  have d0 : w.cell? ⟨pb, 0, none⟩ = some (.slice va 0 vc) := cell_at hb rfl
  have d1 : w.cell? ⟨pb, 1, none⟩ = some (.int .i64 64) := cell_at hb rfl
  have d2 : w.cell? ⟨pb, 2, none⟩ = some (.bool true) := cell_at hb rfl
  have d3 : w.cell? ⟨pb, 3, none⟩ = some (.bool x.writing) := cell_at hb rfl
  have hta := run_assert_no (P := Tryz.prog) w (t := 100) (x := 86) (a := 131) (pt nb) Tryz.underlying131 (by kernel_rfl) (by decide)
  have htc := run_assert_yes (P := Tryz.prog) w (x := 86) (a := 100) (pt nb) Tryz.underlying100
  have q1 : decide ((n : Int) < 1) = false := decide_eq_false (by omega)
  have q2 : decide ((10000 : Int) < (n : Int)) = false := decide_eq_false (by omega)
  rw [hop] at d3
  have H := Lib.hid h
  clear h hx t2 hb hv hnb hb0 hat hat' t5 hpb hp hwr hop
  go_enter Tryz.func21, Tryz.ntmps21
  go_upto_region 15 with fail
  go_quiet (fail)
  go_wp2_with fail
  go_ret3
  have T0 : ∀ k, Turn (fun _ => False) w (w.drewN k) := fun k => ⟨rfl, rfl, rfl, Nat.le_refl _, fun _ _ _ => rfl⟩
  exact ⟨rfl, H.out.new (T0 _), T0 _⟩
end
end Go.Str
