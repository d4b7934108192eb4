/-
  The console's Flush and Flags, walked.
-/
import Derived.Test.YtjdafmpkobelcaaDoorQConLine
set_option linter.unusedVariables false

namespace Go.Con
open Go.Own Go.RowKit Go.Proofs

section
variable {g : Ghost} {S : CS} {w w' : World}

theorem wpList_delete {P : Program} {t kt et : TypeId} {b : Nat} {f : Int → Option Value} {w : World} {ops : Array Oper} {rest : List Oper} {o : Oper} {a : Act} {Q : Exit → Act → World → Prop} (hg : o.guard = none) (m x : Operand)
    (hop : o.op = .call { callee := .builtin .delete, args := #[m, x], argTypes := #[t, kt] })
    (hk : P.underlying kt = some (.int .i64)) (ht : P.underlying t = some (.map kt et)) (hm : a.eval m = .map (some b)) (h : MapAt w b f) {k : Int} (hx : a.eval x = .int .i64 k) (hw : (Lit.int .i64 k).wf = true)
    (hK : ∀ w', MapAt w' b (upd f k none) → Turn (fun j => j = b) w w' → w'.heap.size = w.heap.size → wpList P ops Q rest (a.put o.dst (.tuple #[])) w') : wpList P ops Q (o :: rest) a w := by
  refine wpList_plain hg fun K' hK' => ?_
  obtain ⟨w', hrun, r1, r2, r3⟩ := h.delete (P := P) (ty := o.type) hk ht hw
  unfold Oper.wp execOp
  simp only [hop, resolve, invoke, builtin, Sem.run_bind, Sem.run_pure, Result.andThen_ok, List.map_toArray, List.map_cons, List.map_nil, hm, hx, hrun]
  exact hK' _ _ (hK w' r1 r2 r3)

def OutPost (g : Ghost) (R : CS) (w : World) (v : Value) (e : Ending) (w' : World) : Prop := e = .returned v ∧ ∃ g', Rep g' R w' ∧ Step g g' w w'

set_option maxHeartbeats 1000000 in
theorem flush_calls (k : Nat) {c : Nat} (hc : g.c = c) (h : Rep g S w) (hok : S.Ok) (hsc : S.screen.length ≤ 1099511000000) (h1 : 1 ≤ k) (h2 : k ≤ 99) :
    Calls Tryd.prog 10 #[.pointer (some ⟨c, 0, none⟩), .int .i64 k] w (OutPost g (S.flush k) w (.int .i64 0)) := by
  subst hc
  obtain ⟨-, -, -, -, -, -, -, c7, -, -, fz⟩ := block_cells h.blk
  have hwf : (Lit.int .i64 (k : Int)).wf = true := wf_i64 (by omega) (by omega)
  obtain ⟨a0, n0, k0, hv0, hl0, -⟩ := (h.outv k).1.form
  rw [bcells_length, Nat.mul_one] at hl0
  have hk0 := h.out.lookup (P := Tryd.prog) (t := 56) Tryd.underlying3 Tryd.underlying56 (z := nilSlice) (by kernel_rfl) hwf
  rw [hv0] at hk0
  have hg1 : ¬ (k : Int) < 1 := by omega
  have hg2 : ¬ (99 : Int) < (k : Int) := by omega
  have HV := Lib.hid hv0
  clear hv0
  by_cases ho : S.out k = []
  · have hn : n0 = 0 := by rw [ho] at hl0; simpa using hl0.symm
    subst hn
    have HO := Lib.hid ho
    clear hl0 ho
    go_enter Tryd.func10, Tryd.ntmps10
    go_wp2_with fail
    refine (ready_calls rfl h).mono ?_
    rintro e1 w1 ⟨rfl, rfl⟩
    go_wp2
    go_ret
    exact ⟨rfl, g, by unfold CS.flush; rw [if_pos HO.out]; exact h, Step.refl _ _⟩
  · have hn : (0 : Int) < (n0 : Int) := by have := List.length_pos_iff.2 ho; omega
    have HO := Lib.hid ho
    clear hl0 ho
    go_enter Tryd.func10, Tryd.ntmps10
    go_wp2_with fail
    refine (ready_calls rfl h).mono ?_
    rintro e1 w1 ⟨rfl, rfl⟩
    go_wp2_with fail
    refine (line_calls k a0 n0 k0 rfl h hok hsc HV.out h1 h2).mono ?_
    rintro e2 w2 ⟨rfl, g2, r2, s2, f2, m2⟩
    obtain ⟨-, -, -, -, -, -, -, d7, -, -, fd⟩ := block_cells r2.blk
    rw [s2.c] at d7 fd
    obtain ⟨w3, hup, m3, hT3, hz3⟩ := r2.out.update (P := Tryd.prog) (t := 56) Tryd.underlying3 Tryd.underlying56 hwf (.slice none 0 0)
    have put := r2.put_out (w1 := w2) (w2 := w3) (v' := nilSlice) (k := (k : Int)) (t := []) (Turn.refl _ _) (SliceAt.nil _ _ _) (.inl (.inr rfl)) m3 hT3 hz3
    have HP := Lib.hid put
    have S2 := Lib.hid s2
    clear put m3 hT3 hz3 f2 m2 s2 hk0 c7 fz
    go_wp2
    go_ret
    have e3 : S.flush k = { S.line k (S.out k) with out := upd (S.line k (S.out k)).out k [] } := by unfold CS.flush; rw [if_neg HO.out]; rfl
    exact ⟨rfl, _, by rw [e3]; exact HP.out.1, S2.out.trans HP.out.2⟩

theorem flush_off (k : Int) (hk : k < 1 ∨ 99 < k) {c : Nat} (hc : g.c = c) :
    Calls Tryd.prog 10 #[.pointer (some ⟨c, 0, none⟩), .int .i64 k] w fun e w' => e = .returned (.int .i64 190) ∧ w' = w := by
  rcases hk with hk | hk
  · go_enter Tryd.func10, Tryd.ntmps10
    go_wp2
    go_ret
    exact ⟨rfl, rfl⟩
  · have hk' : ¬ k < 1 := by omega
    go_enter Tryd.func10, Tryd.ntmps10
    go_wp2
    go_ret
    exact ⟨rfl, rfl⟩

set_option maxHeartbeats 1000000 in
theorem flags_calls (k : Int) (hwf : (Lit.int .i64 k).wf = true) {c : Nat} (hc : g.c = c) (h : Rep g S w) :
    Calls Tryd.prog 23 #[.pointer (some ⟨c, 0, none⟩), .int .i64 k] w (OutPost g (S.asked k) w (.int .i64 (S.flags k))) := by
  subst hc
  obtain ⟨-, -, -, -, -, -, c6, -, -, -, fz⟩ := block_cells h.blk
  have hk0 := h.flags.lookup (P := Tryd.prog) (t := 55) Tryd.underlying3 Tryd.underlying55 (z := .int .i64 0) (by kernel_rfl) hwf
  rw [h.flagsv] at hk0
  obtain ⟨w3, hup, m3, hT3, hz3⟩ := h.flags.delete (P := Tryd.prog) (ty := 0) (t := 55) Tryd.underlying3 Tryd.underlying55 hwf
  have HP := Lib.hid (h.clear_flag m3 hT3 hz3)
  have HU := Lib.hid hup
  clear m3 hT3 hz3 hup
  go_enter Tryd.func23, Tryd.ntmps23
  go_wp2
  rw [HU.out]
  simp only [Result.andThen_ok, Oper.upon_value]
  rename_i hK
  refine hK _ _ ?_
  go_wp2
  go_ret
  exact ⟨rfl, _, HP.out⟩
end
end Go.Con
