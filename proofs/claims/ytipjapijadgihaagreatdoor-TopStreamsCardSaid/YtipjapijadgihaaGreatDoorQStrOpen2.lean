/-
  open of a pipe's end; the concrete openings.
-/
import Derived.Test.YtipjapijadgihaaGreatDoorQStrClose2
set_option linter.unusedVariables false

namespace Go.Str
open Go.Own Go.RowKit Go.Proofs

section
variable {g g' : Gh} {S : SS} {w w' : World}

set_option maxRecDepth 10000 in
set_option maxHeartbeats 2000000 in
theorem open_pipe_new (h : Rep g S w) {sb : Nat} (hs : g.s = sb) {l name : Bytes} (hc : cutL l = (lPipe, name)) (hl : l.length ≤ 1000) (hp : name.length ≤ 1000) (hno : ∀ q, S.pipes q = none) :
    Calls Tryz.prog 35 #[pt sb, .string (bs l), .int .i64 1] w (OpenPost g { S with pipes := updB S.pipes name (some ⟨[], true, true, false, false⟩) } ((S.last : Int) + 1) (.en name false) w) := by
  have hC := cut_calls l (by omega) h.base.env
  rw [hc] at hC
  have H := Lib.hid (And.intro h (And.intro hC (And.intro hno (And.intro hp hs))))
  clear hC hc h hno hs
  go_enter Tryz.func35, Tryz.ntmps35
  go_wp2_with fail
  refine H.out.2.1.mono ?_
  rintro e1 w1 ⟨rfl, T1⟩
  have HT := Lib.hid T1
  clear T1
  go_wp2_with fail
  refine (pipe_new (H.out.1.new HT.out) H.out.2.2.2.2 hp H.out.2.2.1).mono ?_
  rintro e2 w2 h2
  have h3 := h2.after (Step.fresh g HT.out)
  obtain ⟨g', rfl, h4⟩ := h3
  have H4 := Lib.hid h4
  clear h2 h4
  go_wp2_with fail
  go_ret2
  exact ⟨g', rfl, H4.out⟩

set_option maxRecDepth 10000 in
set_option maxHeartbeats 2000000 in
theorem open_pipe_old (h : Rep g S w) {sb : Nat} (hs : g.s = sb) {l name : Bytes} (hc : cutL l = (lPipe, name)) (hl : l.length ≤ 1000) (hp : name.length ≤ 1000) {x : Pp} (hx : S.pipes name = some x) (hrd : x.reading = false) :
    Calls Tryz.prog 35 #[pt sb, .string (bs l), .int .i64 0] w (OpenPost g { S with pipes := updB S.pipes name (some { x with read := true, reading := true }) } ((S.last : Int) + 1) (.en name true) w) := by
  have hC := cut_calls l (by omega) h.base.env
  rw [hc] at hC
  have H := Lib.hid (And.intro h (And.intro hC (And.intro hx (And.intro hp (And.intro hs hrd)))))
  clear hC hc h hx hs hrd
  go_enter Tryz.func35, Tryz.ntmps35
  go_wp2_with fail
  refine H.out.2.1.mono ?_
  rintro e1 w1 ⟨rfl, T1⟩
  have HT := Lib.hid T1
  clear T1
  go_wp2_with fail
  refine (pipe_old (H.out.1.new HT.out) H.out.2.2.2.2.1 hp H.out.2.2.1 H.out.2.2.2.2.2).mono ?_
  rintro e2 w2 h2
  have h3 := h2.after (Step.fresh g HT.out)
  obtain ⟨g', rfl, h4⟩ := h3
  have H4 := Lib.hid h4
  clear h2 h4
  go_wp2_with fail
  go_ret2
  exact ⟨g', rfl, H4.out⟩

def nOne : Bytes := [111, 110, 101]
def nThree : Bytes := [116, 104, 114, 101, 101]
def nMid : Bytes := [109, 105, 100]
def nDir : Bytes := [100, 105, 114]
def nSub : Bytes := [115, 117, 98, 47, 116, 119, 111]
def nDirTwo : Bytes := [100, 105, 114, 58, 116, 119, 111]
def nRamSub : Bytes := [114, 97, 109, 58, 115, 117, 98]
def nRamSubTwo : Bytes := [114, 97, 109, 58, 115, 117, 98, 47, 116, 119, 111]

end
end Go.Str

/-
  awake24: a pipe hands on a byte.
-/
namespace Go.Str
open Go.Own Go.RowKit Go.Proofs

section
variable {g g' : Gh} {S : SS} {w w' : World}

theorem Step.after_new {w0 : World} (h : Turn (fun _ => False) w0 w) (hg : ∀ k, k < w0.heap.size → (g.ρ k).1 = 0) (hs : Step g g' w w') : Turn (fun _ => False) w0 w' ∧ ∀ k, k < w0.heap.size → (g'.ρ k).1 = 0 := by
  have h0 := h.size
  refine ⟨⟨hs.turn.os.trans h.os, hs.turn.tape.trans h.tape, hs.turn.output.trans h.output, Nat.le_trans h.size hs.turn.size, fun j hj _ => ?_⟩, fun k hk => (hs.tags k (by omega)).2 (hg k hk)⟩
  rw [hs.turn.block j (by omega) (fun e => e (hg j hj))]
  exact h.block j hj (fun e => e)

def nPp : Bytes := [112, 105, 112, 101, 58, 112]
theorem cut_pp : cutL nPp = (lPipe, [112]) := by decide
theorem path_pp : isPathL lPipe [112] = true := by decide

def P1 : Bytes → Option Pp := updB (fun _ => none) [112] (some ⟨[], true, true, false, false⟩)
def P2 : Bytes → Option Pp := updB P1 [112] (some ⟨[7], true, true, false, false⟩)
def P3 : Bytes → Option Pp := updB P2 [112] (some ⟨[7], true, true, true, true⟩)
def P4 : Bytes → Option Pp := updB P3 [112] (some ⟨[], true, true, true, true⟩)
def H1 : Int → Option Hd := upd (fun _ => none) 1 (some (.en [112] false))
def H2 : Int → Option Hd := upd H1 2 (some (.en [112] true))
def A1 : SS := ⟨fun _ => none, P1, fun _ => none, H1, 1⟩
def A2 : SS := ⟨fun _ => none, P2, fun _ => none, H1, 1⟩
def A3 : SS := ⟨fun _ => none, P3, fun _ => none, H2, 2⟩
def A4 : SS := ⟨fun _ => none, P4, fun _ => none, H2, 2⟩

theorem awake_open1 (h : Rep g SS.new w) {sb : Nat} (hs : g.s = sb) : Calls Tryz.prog 9 #[pt sb, .string (bs nPp), .int .i64 1] w (HandPost g A1 1 w) :=
  open_gen h hs (to_ := nPp) (.inr rfl) (P' := P1) (x := .en [112] false) (Nat.zero_le _) (by decide) (resolve_given cut_pp (by decide) (.inr rfl) path_pp h.base.env sb)
    (fun w1 T => (open_pipe_new (h.new T) hs cut_pp (by decide) (by decide) (fun _ => rfl)))
    (fun name r e => by cases e; exact ⟨_, updB_self _ _ _⟩)
theorem awake_write (h : Rep g A1 w) {sb : Nat} (hs : g.s = sb) {u : Value} (hu : SliceAt w 5 1 u (bcells [7])) : Calls Tryz.prog 10 #[pt sb, .int .i64 1, u] w (WritePost g A2 1 w) :=
  write_en h hs (name := [112]) (ys := [7]) (x := ⟨[], true, true, false, false⟩) rfl rfl (by decide) hu (by decide) (by decide) (by decide) (by decide) (by decide)
theorem awake_open2 (h : Rep g A2 w) {sb : Nat} (hs : g.s = sb) : Calls Tryz.prog 9 #[pt sb, .string (bs nPp), .int .i64 0] w (HandPost g A3 2 w) :=
  open_gen h hs (to_ := nPp) (.inl rfl) (P' := P3) (x := .en [112] true) (by decide) (by decide) (resolve_given cut_pp (by decide) (.inr rfl) path_pp h.base.env sb)
    (fun w1 T => (open_pipe_old (h.new T) hs cut_pp (by decide) (by decide) (x := ⟨[7], true, true, false, false⟩) rfl rfl))
    (fun name r e => by cases e; exact ⟨_, updB_self _ _ _⟩)
theorem awake_read (h : Rep g A3 w) {sb : Nat} (hs : g.s = sb) : Calls Tryz.prog 21 #[pt sb, .int .i64 2, .int .i64 5] w (ReadPost g A4 [7] w) :=
  read_en h hs (name := [112]) (x := ⟨[7], true, true, true, true⟩) (n := 5) rfl rfl (by decide) rfl (by decide) (by decide) (by decide) (by decide)

set_option maxRecDepth 10000 in
set_option maxHeartbeats 2000000 in
theorem awake_calls (hE : Env w) : Calls Tryz.prog 4 #[] w fun e w' => e = .returned (.bool true) ∧ Turn (fun _ => False) w w' := by
  have H := Lib.hid hE
  clear hE
  go_enter Tryz.func4, Tryz.ntmps4
  go_wp2_with fail
  refine (new_calls H.out).mono ?_
  rintro e1 w1 ⟨g1, rfl, hs1, R1, T1, Z1⟩
  have H1 := Lib.hid (And.intro R1 (And.intro T1 Z1))
  clear R1 T1 Z1
  obtain ⟨sb, hsb⟩ : ∃ sb, g1.s = sb := ⟨_, rfl⟩
  have HS := Lib.hid hsb
  rw [hsb]
  clear hsb hs1
  go_wp2_with fail
  refine (awake_open1 H1.out.1 HS.out).mono ?_
  rintro e2 w2 ⟨rfl, g2, R2, S2⟩
  obtain ⟨T2, Z2⟩ := S2.after_new H1.out.2.1 H1.out.2.2
  have H2 := Lib.hid (And.intro R2 (And.intro T2 (And.intro Z2 (S2.s.trans HS.out))))
  clear R2 S2 T2 Z2
  go_wp2_with fail
  have T3 : Turn (fun _ => False) w2 (w2.alloc (.cells #[.int .u8 7] 5)) := (Turn.refl _ w2).alloc _
  have HA := Lib.hid (And.intro (H2.out.1.new T3) (And.intro (Step.fresh g2 T3) (SliceAt.made (sz := 1) (n := 1) (heap_alloc_new w2 (.cells #[.int .u8 7] 5)) rfl (by decide))))
  clear T3
  refine (awake_write HA.out.1 H2.out.2.2.2 HA.out.2.2).mono ?_
  rintro e3 w3 ⟨rfl, g3, R3, S3⟩
  obtain ⟨T3, Z3⟩ := (HA.out.2.1.trans S3).after_new H2.out.2.1 H2.out.2.2.1
  have H3 := Lib.hid (And.intro R3 (And.intro T3 (And.intro Z3 (S3.s.trans H2.out.2.2.2))))
  clear R3 S3 T3 Z3
  go_wp2_with fail
  refine (awake_open2 H3.out.1 H3.out.2.2.2).mono ?_
  rintro e4 w4 ⟨rfl, g4, R4, S4⟩
  obtain ⟨T4, Z4⟩ := S4.after_new H3.out.2.1 H3.out.2.2.1
  have H4 := Lib.hid (And.intro R4 (And.intro T4 (And.intro Z4 (S4.s.trans H3.out.2.2.2))))
  clear R4 S4 T4 Z4
  go_wp2_with fail
  refine (awake_read H4.out.1 H4.out.2.2.2).mono ?_
  rintro e5 w5 ⟨u, g5, rfl, hu, -, R5, S5⟩
  obtain ⟨T5, -⟩ := S5.after_new H4.out.2.1 H4.out.2.2.1
  obtain ⟨a, cap, rfl, -, -⟩ := bytes_form hu
  obtain ⟨ub, uo, rfl⟩ := hu.addr (by decide)
  have k0 : w5.cell? ⟨ub, uo, none⟩ = some (.int .u8 7) := hu.cells 0 _ rfl
  have H5 := Lib.hid T5
  clear hu R5 S5 T5
  go_wp2_with fail
  go_ret
  exact ⟨rfl, H5.out⟩
end
end Go.Str

/-
  Assign, walked: "dir" stands for "ram:sub".
-/
namespace Go.Str
open Go.Own Go.RowKit Go.Proofs

section
variable {g g' : Gh} {S : SS} {w w' : World}

theorem Rep.set_assigns (h : Rep g S w) {name t : Bytes} (ht : Turn (fun k => k = g.am) w w') (hm : MapST w' g.am (updT (ka S.assigns) (bs name) (some (.string (bs t))))) :
    Rep g { S with assigns := updB S.assigns name (some t) } w' ∧ Step g g w w' := by
  have hs : Same g g w w' (fun t => t = (1, 3)) := ⟨fun k hk hd => ht.block k hk (fun e => hd (by rw [e, h.base.ta])), fun _ _ _ => rfl⟩
  refine ⟨⟨h.base.same hs (by simp) (fun _ _ _ => rfl) (fun t h0 e => by rw [e] at h0; cases h0) (fun k hk => h.base.fresh k (by have := ht.size; omega)) ⟨rfl, rfl, rfl, rfl, rfl⟩, h.files.same hs h.base.tf (by simp) (by simp) rfl rfl, h.pipes.same hs h.base.tp (by simp) (by simp) (by simp) rfl rfl,
    ?_, h.handles.same hs h.base.th (by simp) (fun j _ => ⟨by simp, by simp⟩) (by simp) rfl (fun _ _ => rfl) (fun _ _ _ _ => rfl), h.ends⟩, ⟨ht.mono fun k _ e => by rw [e, h.base.ta]; decide, fun _ _ => Iff.rfl, rfl⟩⟩
  have e : ka (updB S.assigns name (some t)) = updT (ka S.assigns) (bs name) (some (.string (bs t))) := by
    funext k
    by_cases e : k = bs name
    · subst e
      rw [upd_selfT]
      show (updB S.assigns name _ name).map _ = _
      rw [updB_self]
      rfl
    · rw [upd_neT _ _ e]
      show (updB S.assigns name _ k.data.toList).map _ = _
      rw [updB_ne _ _ (fun e' => e (by rw [← e']))]
      rfl
  show MapST w' g.am (ka (updB S.assigns name (some t)))
  rw [e]
  exact hm

def nSubS : Bytes := [115, 117, 98]

set_option maxRecDepth 10000 in
set_option maxHeartbeats 2000000 in
theorem assign_calls (h : Rep g S w) {sb : Nat} (hs : g.s = sb) (hno : S.assigns = fun _ => none) :
    Calls Tryz.prog 12 #[pt sb, .string (bs nDir), .string (bs nRamSub)] w (ClosePost g { S with assigns := updB S.assigns nDir (some nRamSub) } w) := by
  have hC := cut_calls nRamSub (by decide) h.base.env
  rw [show cutL nRamSub = (lRam, nSubS) by decide] at hC
  have H := Lib.hid (And.intro h (And.intro hC (And.intro hno hs)))
  clear hC h hno hs
  go_enter Tryz.func12, Tryz.ntmps12
  go_wp2_with fail
  refine H.out.2.1.mono ?_
  rintro e1 w1 ⟨rfl, T1⟩
  have HT1 := Lib.hid T1
  clear T1
  go_wp2_with fail
  refine (isShort_calls nDir (by decide)).mono ?_
  rintro e2 w2 ⟨rfl, T2⟩
  have HT2 := Lib.hid (HT1.out.trans T2)
  clear T2 HT1
  go_wp2_with fail
  refine (given_calls nDir).mono ?_
  rintro e3 w3 ⟨rfl, rfl⟩
  rw [show givenL nDir = false by decide]
  go_wp2_with fail
  refine (isPath_ram nSubS (by decide) (H.out.1.base.env.turn HT2.out (fun e => e))).mono ?_
  rintro e4 w4 ⟨rfl, T4⟩
  have T24 := HT2.out.trans T4
  have R4 := H.out.1.new T24
  have HT4 := Lib.hid (And.intro T24 R4)
  clear T4 T24 R4 HT2
  go_wp2_with fail
  refine (ready_calls HT4.out.2 H.out.2.2.2).mono ?_
  rintro e5 w5 ⟨rfl, rfl⟩
  obtain ⟨-, -, c2, -, -, -⟩ := s_cells HT4.out.2.base.sb
  rw [H.out.2.2.2] at c2
  have hM := HT4.out.2.assigns
  rw [H.out.2.2.1] at hM
  have hlk : (Instr.lookup 77 (.map (some g.am)) (.string (bs nDir)) true).run Tryz.prog w5 = .ok (.tuple #[.string ByteArray.empty, .bool false]) w5 :=
    hM.at.lookup_ok (P := Tryz.prog) (t := 77) (z := .string ByteArray.empty) Tryz.underlying9 Tryz.underlying77 (by kernel_rfl) (k := bs nDir) (by decide)
  have hlen : (Builtin.len_ #[77] 3 #[.map (some g.am)]).run Tryz.prog w5 = .ok (.int .i64 0) w5 := by
    rw [hM.run_len Tryz.underlying77]
    have := hM.len_le [] (fun k hk => by cases hk)
    simp at this
    rw [this]; rfl
  clear hM
  go_wp2_with (
    refine wpList_updateST rfl _ _ _ rfl Tryz.underlying9 Tryz.underlying77 rfl HT4.out.2.assigns rfl (by decide) rfl ?_
    intro w6 hM6 ht6 hs6
    have HM := Lib.hid (And.intro hM6 ht6)
    clear hM6 ht6 hs6)
  go_ret
  obtain ⟨R6, S6⟩ := HT4.out.2.set_assigns (name := nDir) (t := nRamSub) HM.out.2 HM.out.1
  exact ⟨rfl, g, R6, (Step.fresh g HT4.out.1).trans S6⟩
end
end Go.Str
