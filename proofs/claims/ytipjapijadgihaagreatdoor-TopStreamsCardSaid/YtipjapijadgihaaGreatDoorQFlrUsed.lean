/-
  walk, mark, Used on a root without entries; fresh.
-/
import Derived.Test.YtipjapijadgihaaGreatDoorQFlrTarget
set_option linter.unusedVariables false

namespace Go.Flr
open Go.Own Go.RowKit Go.Proofs

section
variable {w0 w w' w1 : World} {d g : Nat} {D : List Bytes} {L : List (Nat × Bytes)} {lv : Value}

theorem way_nil (_h : DI w0 d g D L lv w) {v : Value} (hv : SliceAt w 9 1 v []) : Calls Tryz.prog 93 #[pt d, v] w fun e w' => e = .returned (.tuple #[.int .i64 0, .nilIface]) ∧ Turn (fun _ => False) w w' := by
  obtain ⟨va, vc, rfl, -, -⟩ := strs_form hv
  simp only [List.length_nil]
  clear hv _h
  go_enter Tryz.func93, Tryz.ntmps93
  go_wp2_with fail
  go_loopg [6, 12] (0) (fun gk dv iv wr => dv = .int .i64 0 ∧ iv = .int .i64 0 ∧ wr = w)
  case atStart => exact ⟨rfl, rfl, rfl⟩
  case round =>
    obtain ⟨rfl, rfl, rfl⟩ := hrel
    go_wp2_with fail
    go_ret2
    exact ⟨rfl, Turn.refl _ _⟩

/-- No entries. -/
def Bare (B : Bytes) : Prop := ∀ c, c < 16 → numAt B (35 + 2 * c) = 0

set_option maxRecDepth 10000 in
set_option maxHeartbeats 1000000 in
theorem walk_bare (h : DI w0 d g D L lv w) {k : Nat} (hk : k < D.length) (hb : Bare (atD D k)) (f : Value) :
    Calls Tryz.prog 133 #[pt d, .int .i64 k, f] w fun e w' => e = .returned (.tuple #[]) ∧ Turn (fun _ => False) w w' := by
  obtain ⟨n, hn⟩ : ∃ n, D.length = n := ⟨_, rfl⟩
  have hkn : k < n := by omega
  have H := Lib.hid (And.intro h (And.intro hk (And.intro hb hn)))
  clear h hk hb hn
  go_enter Tryz.func133, Tryz.ntmps133
  go_wp2_with fail
  go_loopg [8] (16) (fun gk iv wr => ∃ i : Nat, gk + i = 16 ∧ iv = .int .i64 i ∧ Turn (fun _ => False) w wr)
  case atStart => exact ⟨0, rfl, rfl, Turn.refl _ _⟩
  case round =>
    obtain ⟨i, hgk, rfl, hT⟩ := hrel
    have hD := H.out.1.new hT
    have hdb := hD.db
    rw [H.out.2.2.2] at hdb
    obtain ⟨c0, -, -, -, -⟩ := disk_cells hdb
    by_cases hi : i < 16
    · have hc := number_calls (i := 35 + 2 * i) (hD.range H.out.2.1) (hD.len.at k) (by omega)
      rw [H.out.2.2.1 i hi, show ((35 + 2 * i : Nat) : Int) = 35 + 2 * (i : Int) by omega] at hc
      have HC := Lib.hid hc
      have HT := Lib.hid (And.intro hT hgk)
      clear hT hgk hD hdb hc
      go_wp2_with fail
      refine HC.out.mono ?_
      rintro e1 w1 ⟨rfl, n1, rfl⟩
      clear c0
      go_wp2_with fail
      go_loopg [7] (0) (fun gk kv wq => kv = .int .i64 0 ∧ wq = wr.drewN n1)
      case atStart => exact ⟨rfl, rfl⟩
      case round =>
        obtain ⟨rfl, rfl⟩ := hrel
        go_wp2_with fail
        have hgk := HT.out.2
        go_roundg (15 - i)
        case rel => exact ⟨i + 1, by omega, by rfl, turn_drewN HT.out.1 _⟩
        case measure => omega
    · have HT := Lib.hid hT
      clear hT hD hdb
      go_wp2_with fail
      go_end0
      exact ⟨rfl, HT.out⟩

def ucells (us : List Bool) : List Value := us.map Value.bool
@[simp] theorem ucells_length (us : List Bool) : (ucells us).length = us.length := by simp [ucells]
theorem elemBool : Elem Tryz.prog 4 1 1 (.bool false) := Elem.mk' (by kernel_rfl) rfl (by decide)
theorem elemBlock : Elem Tryz.prog 63 128 128 (agg zeros) := Elem.mk' (by kernel_rfl) (by rfl) (by decide)
theorem make_bools (n : Nat) (hn : n ≤ 1000) (w : World) :
    (Instr.makeSlice 180 (.int .i64 n) (.int .i64 n)).run Tryz.prog w = .ok (.slice (some ⟨w.heap.size, 0, none⟩) n n) (w.alloc (.cells (ucells (List.replicate n false)).toArray 4)) := by
  obtain ⟨⟨i, hi, hz, h1, h2⟩, -, -⟩ := elemBool
  rw [Go.run_make (P := Tryz.prog) w 180 4 i (.bool false) Tryz.underlying180 hi hz .i64 .i64 n n (by omega) (by omega) (by rw [h2]; omega) (by omega), h1]
  have : madeCells (Value.bool false).cells (n * 1) = (ucells (List.replicate n false)).toArray := by
    apply Array.ext
    · simp [size_madeCells, ucells]
    · intro j h1 h2
      simp [madeCells, ucells, Value.cells, Nat.mod_one]
  simp only [Int.toNat_natCast, this]
theorem dcells_zeros (n : Nat) : dcells (List.replicate n zeros) = List.replicate (n * 128) (.int .u8 0) := by
  have e : bcells zeros = List.replicate 128 (.int .u8 0) := by unfold bcells zeros; rw [List.map_replicate]; rfl
  induction n with
  | zero => rfl
  | succ k ih =>
    rw [List.replicate_succ]
    show bcells zeros ++ dcells (List.replicate k zeros) = _
    rw [ih, e, List.replicate_append_replicate]
    all_goals (congr 1; omega)
theorem madeCells_same {m : Nat} (hm : 0 < m) (k : Nat) (x : Value) : madeCells (List.replicate m x).toArray k = (List.replicate k x).toArray := by
  apply Array.ext
  · simp [size_madeCells]
  · intro j h1 h2
    have hj : j % m < m := Nat.mod_lt _ hm
    simp [madeCells, hj]
theorem make_blocks (n : Nat) (hn : n ≤ 1000) (w : World) :
    (Instr.makeSlice 57 (.int .i64 n) (.int .i64 n)).run Tryz.prog w = .ok (.slice (some ⟨w.heap.size, 0, none⟩) n n) (w.alloc (.cells (dcells (List.replicate n zeros)).toArray 63)) := by
  obtain ⟨⟨i, hi, hz, h1, h2⟩, -, -⟩ := elemBlock
  rw [Go.run_make (P := Tryz.prog) w 57 63 i _ Tryz.underlying57 hi hz .i64 .i64 n n (by omega) (by omega) (by rw [h2]; omega) (by omega), h1]
  have e : (agg zeros).cells = (List.replicate 128 (Value.int .u8 0)).toArray := by
    have : bcells zeros = List.replicate 128 (Value.int .u8 0) := by unfold bcells zeros; rw [List.map_replicate]; rfl
    show (bcells zeros).toArray = _
    rw [this]
  have : madeCells (agg zeros).cells (n * 128) = (dcells (List.replicate n zeros)).toArray := by
    rw [dcells_zeros, e, madeCells_same (by decide)]
  simp only [Int.toNat_natCast, this]

theorem bools_form {w : World} {v : Value} {xs : List Value} (h : SliceAt w 4 1 v xs) : ∃ a cap, v = .slice a xs.length cap ∧ xs.length ≤ cap ∧ cap ≤ maxLen := by
  obtain ⟨a, n, cap, rfl, hl, hn, hm, -⟩ := h.form
  rw [Nat.mul_one] at hl
  subst hl
  exact ⟨a, cap, rfl, hn, hm⟩

set_option maxRecDepth 10000 in
set_option maxHeartbeats 2000000 in
theorem mark_bare {wa : World} (ha : DI w0 d g D L lv wa) (h : DI w0 d g D L lv w) {k : Nat} (hk : k < D.length) (hb : Bare (atD D k)) (hkd : kindOf (atD D k) ≠ 2) {ub uo m c : Nat} {us : List Bool} (hu : SliceAt w 4 1 (.slice (some ⟨ub, uo, none⟩) m c) (ucells us)) (hub : wa.heap.size ≤ ub) (hku : k < us.length) :
    Calls Tryz.prog 101 #[pt d, .int .i64 k, .slice (some ⟨ub, uo, none⟩) m c] w fun e w' => e = .returned (.tuple #[]) ∧ SliceAt w' 4 1 (.slice (some ⟨ub, uo, none⟩) m c) (ucells (us.set k true)) ∧ Turn (fun k => k = ub) w w' := by
  obtain ⟨n, hn⟩ : ∃ n, D.length = n := ⟨_, rfl⟩
  have hm : us.length = m := by obtain ⟨_, _, _, e, hl, -⟩ := hu.form; cases e; simpa using hl
  have hkm : k < m := by omega
  obtain ⟨q, hq⟩ : ∃ q, w.heap.size = q := ⟨_, rfl⟩
  obtain ⟨W, hW⟩ : ∃ W, (w.alloc (.cells #[pt d] 24)).alloc (.cells #[.slice (some ⟨ub, uo, none⟩) m c] 180) = W := ⟨_, rfl⟩
  have T1 : Turn (fun _ => False) w W := by rw [← hW]; exact ((Turn.refl _ w).alloc _).alloc _
  have p0 : W.heap[q]? = some (.cells #[pt d] 24 (0, 0)) := by rw [← hW, ← hq, heap_alloc_lt _ _ _ (by simp)]; exact heap_alloc_new w _
  have p1 : W.heap[q + 1]? = some (.cells #[.slice (some ⟨ub, uo, none⟩) m c] 180 (0, 0)) := by
    have := heap_alloc_new (w.alloc (.cells #[pt d] 24)) (.cells #[.slice (some ⟨ub, uo, none⟩) m c] 180)
    rw [World.size_alloc, hq, hW] at this
    exact this
  have hD := h.new T1
  have hu1 := hu.turn T1 (fun _ _ e => e)
  have hus := hu1.set k (.bool true) (by simpa using hku)
  have e1 : (ucells us).set k (.bool true) = ucells (us.set k true) := by unfold ucells; rw [List.map_set]
  rw [e1] at hus
  have c5 : W.cell? ⟨q + 1, 0, none⟩ = some (.slice (some ⟨ub, uo, none⟩) m c) := cell_at p1 rfl
  have c3 : W.cell? ⟨q, 0, none⟩ = some (pt d) := cell_at p0 rfl
  have cu : W.cell? ⟨ub, uo + k, none⟩ = some (.bool (us[k])) := hu1.cells k _ (by unfold ucells; rw [List.getElem?_map, List.getElem?_eq_getElem hku]; rfl)
  have cf : W.frozen? ⟨ub, uo + k, none⟩ = false := hu1.frozen _
  generalize us[k] = x at cu
  have hqs : q < W.heap.size := heap_lt p0
  have hubl : ub < q := by rw [← hq]; exact hu.lt ub rfl
  obtain ⟨W2, hW2⟩ : ∃ W2, W.setCell ⟨ub, uo + k, none⟩ (.bool true) = W2 := ⟨_, rfl⟩
  have T2 : Turn (fun k => k = ub) W W2 := by rw [← hW2]; exact (Turn.refl (fun k => k = ub) W).setCell (fun _ => rfl) _
  have hD2 := DI.keep_new ha hD hub T2
  rw [hW2] at hus
  have d5 : W2.cell? ⟨q + 1, 0, none⟩ = some (.slice (some ⟨ub, uo, none⟩) m c) := cell_at ((T2.block (q + 1) (heap_lt p1) (by omega)).trans p1) rfl
  have d3 : W2.cell? ⟨q, 0, none⟩ = some (pt d) := cell_at ((T2.block q hqs (by omega)).trans p0) rfl
  have hdb := hD2.db
  rw [hn] at hdb
  obtain ⟨c0, -, -, -, -⟩ := disk_cells hdb
  have HK := Lib.hid (kind_calls (hD2.range hk) (hD2.len.at k))
  have HWk := fun f => walk_bare hD2 hk hb f
  have HW1 := Lib.hid HWk
  have hk2 : ((kindOf (atD D k) : Int) == 2) = false := beq_eq_false_iff_ne.2 (by omega)
  generalize kindOf (atD D k) = kd at HK hk2
  have hkn : k < n := by omega
  have H := Lib.hid (And.intro hus (And.intro T1 (And.intro T2 (And.intro hW hW2))))
  clear ha h hk hb hu hku hn hm T1 p0 p1 hD hu1 hus e1 hub T2 hD2 hdb HWk hkd hW2
  go_enter Tryz.func101, Tryz.ntmps101
  go_upto_region 1 with fail
  clear hW hq
  have hW2 := H.out.2.2.2.2
  go_upto_region 2 with fail
  clear hW2 c5 c3 cu cf
  go_wp2_with fail
  refine HK.out.mono ?_
  rintro e1 w1 ⟨rfl, rfl⟩
  clear c0
  go_wp2_with fail
  refine (HW1.out _).mono ?_
  rintro e2 w2 ⟨rfl, T3⟩
  have H3 := Lib.hid T3
  clear T3 d5 d3
  go_wp2_with fail
  go_end0
  refine ⟨rfl, H.out.1.turn H3.out (fun _ _ e => e), ?_⟩
  exact ((H.out.2.1.mono (fun _ _ e => e.elim)).trans H.out.2.2.1).trans (H3.out.mono (fun _ _ e => e.elim))

set_option maxRecDepth 10000 in
set_option maxHeartbeats 2000000 in
theorem used_bare (h : DI w0 d g D L lv w) (hb : Bare (atD D 0)) (hkd : kindOf (atD D 0) ≠ 2) :
    Calls Tryz.prog 98 #[pt d] w fun e w' => ∃ v, e = .returned v ∧ Own1 w w' 4 v (ucells ((List.replicate D.length false).set 0 true)) := by
  obtain ⟨n, hn⟩ : ∃ n, D.length = n := ⟨_, rfl⟩
  have hn1 : 16 ≤ n := by have := h.lo; omega
  have hn2 : n ≤ 256 := by have := h.hi; omega
  have hn0 : ((n : Int) == 0) = false := beq_eq_false_iff_ne.2 (by omega)
  have hdb := h.db
  rw [hn] at hdb
  obtain ⟨c0, -, -, -, -⟩ := disk_cells hdb
  have hmk := make_bools n (by omega) w
  obtain ⟨W, hW⟩ : ∃ W, w.alloc (.cells (ucells (List.replicate n false)).toArray 4) = W := ⟨_, rfl⟩
  obtain ⟨q, hq⟩ : ∃ q, w.heap.size = q := ⟨_, rfl⟩
  have T1 : Turn (fun _ => False) w W := by rw [← hW]; exact (Turn.refl _ w).alloc _
  have hA : SliceAt W 4 1 (.slice (some ⟨q, 0, none⟩) n n) (ucells (List.replicate n false)) := by
    have := SliceAt.made (w := W) (e := 4) (sz := 1) (g := q) (n := n) (cur := (ucells (List.replicate n false)).toArray) (by rw [← hW, ← hq]; exact heap_alloc_new w _) (by simp) (by unfold maxLen; omega)
    simpa using this
  rw [hW, hq] at hmk
  have HM := Lib.hid (mark_bare h (h.new T1) (k := 0) (by omega) hb hkd hA (by omega) (by simp; omega))
  have H := Lib.hid (And.intro T1 hq)
  rw [hn]
  clear h hb hkd hdb hW hq T1 hA hn
  go_enter Tryz.func98, Tryz.ntmps98
  go_wp2_with fail
  refine HM.out.mono ?_
  rintro e1 w1 ⟨rfl, hu, T2⟩
  have H2 := Lib.hid (And.intro hu T2)
  clear hu T2 hmk c0 hn0
  go_wp2_with fail
  go_ret
  refine ⟨_, rfl, H2.out.1, fun k hk => ?_, ?_⟩
  · cases hk; rw [H.out.2]; exact Nat.le_refl _
  · have t1 := H.out.1
    have t2 := H2.out.2
    have hq := H.out.2
    exact ⟨t2.os.trans t1.os, t2.tape.trans t1.tape, t2.output.trans t1.output, Nat.le_trans t1.size t2.size, fun k hk _ => by
      have := t1.size
      rw [t2.block k (by omega) (by omega)]; exact t1.block k hk (fun e => e)⟩
end
end Go.Flr
