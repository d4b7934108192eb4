/-
  Copy, walked: "one" to "dir:two", that is "ram:sub/two".
-/
import Derived.Test.YtipjapijadgihaaGreatDoorQStrOpen2
set_option linter.unusedVariables false

namespace Go.Str
open Go.Own Go.RowKit Go.Proofs

section
variable {g g' : Gh} {S : SS} {w w' : World} {b : Bytes} {k m : Nat}

theorem close_rd_d {u : FrameMode} (h : Rep g S w) {sb : Nat} (hs : g.s = sb) {i : Int} {path b : Bytes} (hx : S.handles i = some (.rd path b)) (hl : S.last ≤ 1000) :
    CallsD Tryz.prog 11 #[pt sb, .int .i64 i] u w fun e u' w' => u' = u ∧ ClosePost g { S with handles := upd S.handles i none } w e w' :=
  (close_rd_w h hs hx hl).callsD Tryz.func11
theorem close_wr_d {u : FrameMode} (h : Rep g S w) {sb : Nat} (hs : g.s = sb) {i : Int} {path b : Bytes} (hx : S.handles i = some (.wr path b)) (hl : S.last ≤ 1000) (hp : path.length ≤ 1000) :
    CallsD Tryz.prog 11 #[pt sb, .int .i64 i] u w fun e u' w' => u' = u ∧ ClosePost g { S with handles := upd S.handles i none, files := updB S.files path (some b) } w e w' :=
  (close_wr_w h hs hx hl hp).callsD Tryz.func11

/-- Opening a file in memory. -/
theorem open_file_read (h : Rep g S w) {sb : Nat} (hs : g.s = sb) {name to_ path b : Bytes} (hl : S.last ≤ 18)
    (hres : Calls Tryz.prog 32 #[pt sb, .string (bs name)] w fun e w' => e = .returned (.tuple #[.string (bs to_), .int .i64 0]) ∧ Turn (fun _ => False) w w')
    (hto : to_ ≠ [114, 97, 109, 58]) (hc : cutL to_ = (lRam, path)) (h1 : to_.length ≤ 1000) (h2 : path.length ≤ 1000) (hf : S.files path = some b) (hb : b.length ≤ 100000) :
    Calls Tryz.prog 9 #[pt sb, .string (bs name), .int .i64 0] w (HandPost g { S with handles := upd S.handles ((S.last : Int) + 1) (some (.rd path b)), last := S.last + 1 } ((S.last : Int) + 1) w) :=
  open_gen h hs (.inl rfl) (P' := S.pipes) (x := .rd path b) hl hto hres (fun w1 T => (open_read (h.new T) hs hc h1 h2 hf hb)) (fun name r e => by cases e)
theorem open_file_write (h : Rep g S w) {sb : Nat} (hs : g.s = sb) {name to_ path : Bytes} (hl : S.last ≤ 18)
    (hres : Calls Tryz.prog 32 #[pt sb, .string (bs name)] w fun e w' => e = .returned (.tuple #[.string (bs to_), .int .i64 0]) ∧ Turn (fun _ => False) w w')
    (hto : to_ ≠ [114, 97, 109, 58]) (hc : cutL to_ = (lRam, path)) (h1 : to_.length ≤ 1000) (h2 : path.length ≤ 1000) (hf : NoWr S.handles path) :
    Calls Tryz.prog 9 #[pt sb, .string (bs name), .int .i64 1] w (HandPost g { S with handles := upd S.handles ((S.last : Int) + 1) (some (.wr path [])), last := S.last + 1 } ((S.last : Int) + 1) w) :=
  open_gen h hs (.inr rfl) (P' := S.pipes) (x := .wr path []) hl hto hres (fun w1 T => (open_write (h.new T) hs hc h1 h2 hf)) (fun name r e => by cases e)

def nRamOne : Bytes := [114, 97, 109, 58, 111, 110, 101]
theorem resolve_one (hE : Env w) (sb : Nat) : Calls Tryz.prog 32 #[pt sb, .string (bs nOne)] w fun e w' => e = .returned (.tuple #[.string (bs nRamOne), .int .i64 0]) ∧ Turn (fun _ => False) w w' :=
  resolve_given (p := lRam) (q := nOne) (by decide) (by decide) (.inl rfl) (by decide) hE sb

def F1 (b : Bytes) : Bytes → Option Bytes := updB (fun _ => none) nOne (some b)
def F2 (b : Bytes) : Bytes → Option Bytes := updB (F1 b) nSub (some b)
def AS : Bytes → Option Bytes := updB (fun _ => none) nDir (some nRamSub)

theorem resolve_two (h : Rep g S w) {sb : Nat} (hs : g.s = sb) (ha : S.assigns = AS) : Calls Tryz.prog 32 #[pt sb, .string (bs nDirTwo)] w fun e w' => e = .returned (.tuple #[.string (bs nRamSubTwo), .int .i64 0]) ∧ Turn (fun _ => False) w w' := by
  subst hs
  obtain ⟨-, -, c2, -, -, -⟩ := s_cells h.base.sb
  have hM := h.assigns
  rw [ha] at hM
  exact resolve_assign (a := nDir) (q := [116, 119, 111]) (t := nRamSub) (p' := lRam) (q' := nSub) (by decide) (by decide) (by decide) (by decide) (by decide) (by decide) h.base.env c2 hM rfl (by decide) (by decide) (by decide) (.inl rfl) (by decide)

/-- While the bytes are copied: k of them are there. -/
def CpH (b : Bytes) (k : Nat) : Int → Option Hd := upd (upd (fun _ => none) 2 (some (.rd nOne (b.drop k)))) 3 (some (.wr nSub (b.take k)))
def Cp0 (b : Bytes) : SS := ⟨F1 b, fun _ => none, AS, fun _ => none, 1⟩
def Cp1 (b : Bytes) : SS := ⟨F1 b, fun _ => none, AS, upd (fun _ => none) 2 (some (.rd nOne b)), 2⟩
def CpS (b : Bytes) (k : Nat) : SS := ⟨F1 b, fun _ => none, AS, CpH b k, 3⟩
def CpR (b : Bytes) (k m : Nat) : SS := ⟨F1 b, fun _ => none, AS, upd (CpH b k) 2 (some (.rd nOne ((b.drop k).drop m))), 3⟩
def CpE (b : Bytes) : SS := ⟨F2 b, fun _ => none, AS, fun _ => none, 3⟩

theorem cp_next (b : Bytes) (k m : Nat) : upd (upd (CpH b k) 2 (some (.rd nOne ((b.drop k).drop m)))) 3 (some (.wr nSub (b.take k ++ (b.drop k).take m))) = CpH b (k + m) := by
  funext j
  by_cases e3 : j = 3
  · subst e3
    rw [upd_self]
    show _ = some (Hd.wr nSub (b.take (k + m)))
    rw [List.take_add]
  · rw [upd_ne _ _ e3]
    by_cases e2 : j = 2
    · subst e2
      rw [upd_self]
      show _ = some (Hd.rd nOne (b.drop (k + m)))
      rw [List.drop_drop]
    · rw [upd_ne _ _ e2]
      unfold CpH
      rw [upd_ne _ _ e3, upd_ne _ _ e2, upd_ne _ _ e3, upd_ne _ _ e2]
theorem cp_end (b : Bytes) (k : Nat) : upd (upd (CpH b k) 3 none) 2 none = fun _ => none := by
  funext j
  by_cases e2 : j = 2
  · subst e2; rw [upd_self]
  · rw [upd_ne _ _ e2]
    by_cases e3 : j = 3
    · subst e3; rw [upd_self]
    · rw [upd_ne _ _ e3]
      unfold CpH
      rw [upd_ne _ _ e3, upd_ne _ _ e2]

theorem cp_open1 (h : Rep g (Cp0 b) w) {sb : Nat} (hs : g.s = sb) (hb : b.length ≤ 2000) : Calls Tryz.prog 9 #[pt sb, .string (bs nOne), .int .i64 0] w (HandPost g (Cp1 b) 2 w) :=
  open_file_read h hs (to_ := nRamOne) (path := nOne) (b := b) (Nat.le_add_left 1 17) (resolve_one h.base.env sb) (by decide) (by decide) (by decide) (by decide) (show updB (fun _ => none) nOne (some b) nOne = some b from updB_self _ _ _) (by omega)
theorem cp_open2 (h : Rep g (Cp1 b) w) {sb : Nat} (hs : g.s = sb) : Calls Tryz.prog 9 #[pt sb, .string (bs nDirTwo), .int .i64 1] w (HandPost g (CpS b 0) 3 w) :=
  open_file_write h hs (to_ := nRamSubTwo) (path := nSub) (Nat.le_add_left 2 16) (resolve_two h hs rfl) (by decide) (by decide) (by decide) (by decide) (fun i p c hi => by
    have hi' : upd (fun _ => none) 2 (some (Hd.rd nOne b)) i = some (.wr p c) := hi
    by_cases e : i = 2
    · subst e; rw [upd_self] at hi'; cases hi'
    · rw [upd_ne _ _ e] at hi'; cases hi')
theorem cp_read (h : Rep g (CpS b k) w) {sb : Nat} (hs : g.s = sb) (hb : b.length ≤ 2000) (hk : k < b.length) : Calls Tryz.prog 21 #[pt sb, .int .i64 2, .int .i64 50] w (ReadPost g (CpR b k (min 50 (b.drop k).length)) ((b.drop k).take (min 50 (b.drop k).length)) w) :=
  read_rd h hs (path := nOne) (b := b.drop k) (n := 50) rfl (Nat.le_add_left 3 997) (fun e => by have := congrArg List.length e; simp at this; omega) (by simp; omega) (by decide) (by decide)
theorem cp_read_end (h : Rep g (CpS b k) w) {sb : Nat} (hs : g.s = sb) (hk : b.length ≤ k) : Calls Tryz.prog 21 #[pt sb, .int .i64 2, .int .i64 50] w (EndPost g (CpS b k) w) :=
  read_rd_end h hs (path := nOne) (n := 50) (show some (Hd.rd nOne (b.drop k)) = _ by rw [List.drop_eq_nil_of_le hk]) (Nat.le_add_left 3 997) (by decide) (by decide)
theorem cp_write (h : Rep g (CpR b k m) w) {sb : Nat} (hs : g.s = sb) (hb : b.length ≤ 2000) {u : Value} (hu : SliceAt w 5 1 u (bcells ((b.drop k).take m))) : Calls Tryz.prog 10 #[pt sb, .int .i64 3, u] w (WritePost g (CpS b (k + m)) ((b.drop k).take m).length w) := by
  have hh := write_wr h hs (i := 3) (path := nSub) (xs := b.take k) (ys := (b.drop k).take m) rfl (Nat.le_add_left 3 997) hu (by simp; omega)
  have e : ({ CpR b k m with handles := upd (CpR b k m).handles 3 (some (.wr nSub (b.take k ++ (b.drop k).take m))) } : SS) = CpS b (k + m) := by
    unfold CpR CpS
    rw [cp_next]
  rw [e] at hh
  exact hh

def CpI (g : Gh) (b : Bytes) (w : World) (gk : Nat) (sv : Value) (wr : World) : Prop := ∃ (k : Nat) (g' : Gh), gk + k = b.length ∧ sv = .int .i64 k ∧ Rep g' (CpS b k) wr ∧ Step g g' w wr

set_option maxRecDepth 10000 in
set_option maxHeartbeats 4000000 in
theorem copy_calls (h : Rep g (Cp0 b) w) {sb : Nat} (hs : g.s = sb) (hb : b.length ≤ 2000) :
    Calls Tryz.prog 13 #[pt sb, .string (bs nOne), .string (bs nDirTwo)] w (WritePost g (CpE b) b.length w) := by
  have H := Lib.hid (And.intro h (And.intro hb hs))
  obtain ⟨N, hN⟩ : ∃ N, b.length = N := ⟨_, rfl⟩
  have HN := Lib.hid hN
  rw [hN]
  clear h hb hs hN
  go_enter_defers Tryz.func13, Tryz.ntmps13
  go_wp2_with fail
  refine (cp_open1 H.out.1 H.out.2.2 H.out.2.1).mono ?_
  rintro e1 w1 ⟨rfl, g1, R1, S1⟩
  have H1 := Lib.hid (And.intro R1 (And.intro S1 (S1.s.trans H.out.2.2)))
  clear R1 S1
  go_wp2_with fail
  refine (cp_open2 H1.out.1 H1.out.2.2).mono ?_
  rintro e2 w2 ⟨rfl, g2, R2, S2⟩
  have S02 := H1.out.2.1.trans S2
  have HI := Lib.hid (show CpI g b w N (.int .i64 0) w2 from ⟨0, g2, by rw [HN.out]; rfl, rfl, R2, S02⟩)
  clear R2 S2 S02
  go_wp2_with fail
  go_loopg [11] (N) (fun gk sv wr => CpI g b w gk sv wr)
  case atStart => exact HI.out
  case round =>
    obtain ⟨k, g3, hgk, rfl, R3, S3⟩ := hrel
    have hN := HN.out
    rw [hN] at hgk
    have hs3 := S3.s.trans H.out.2.2
    by_cases hk : k < N
    · have HR := Lib.hid (cp_read R3 hs3 H.out.2.1 (by rw [hN]; exact hk))
      have H3 := Lib.hid (And.intro hgk (And.intro S3 (And.intro hk hs3)))
      clear hgk R3 S3 hs3 hk hN
      go_wp2_with fail
      refine HR.out.mono ?_
      rintro e4 w4 ⟨u, g4, rfl, hu, -, R4, S4⟩
      obtain ⟨m, hm⟩ : ∃ m, min 50 (b.drop k).length = m := ⟨_, rfl⟩
      rw [hm] at hu R4
      have hl4 : ((b.drop k).take m).length = m := by simp; simp at hm; omega
      obtain ⟨ua, uc, rfl, -, -⟩ := bytes_form hu
      simp only [bcells_length, hl4] at hu ⊢
      have hm0 : 0 < m := by rw [← hm]; simp; have := HN.out; have := H3.out.2.2.1; omega
      obtain ⟨a', n', c', hfr, hfs, -⟩ := run_slice_from (m := m) hu (by omega)
      have H4 := Lib.hid (And.intro hu (And.intro R4 (And.intro (H3.out.2.1.trans S4) (And.intro (S4.s.trans H3.out.2.2.2) (And.intro hm hl4)))))
      have HM0 := Lib.hid (And.intro hfr hfs)
      clear hu R4 S4 hm hl4 hfr hfs
      go_wp2_with fail
      refine wp_loop_rounds 2 ?_
      rw [rounds_succ]
      go_wp2_with fail
      refine (cp_write H4.out.2.1 H4.out.2.2.2.1 H.out.2.1 H4.out.1).mono ?_
      rintro e5 w5 ⟨rfl, g5, R5, S5⟩
      rw [H4.out.2.2.2.2.2]
      have hfr := HM0.out.1
      have hu5 := HM0.out.2
      have hgk := H3.out.1
      have hN := HN.out
      have hbl := H.out.2.1
      have hw : IntKind.i64.wrap ((k : Int) + (m : Int)) = ((k + m : Nat) : Int) := by
        have hk := H3.out.2.2.1
        have hm := H4.out.2.2.2.2.1
        simp at hm
        rw [IntWalk.i64_in _ (by omega)]; omega
      have H5 := Lib.hid (And.intro R5 (And.intro (H4.out.2.2.1.trans S5) hu5))
      clear R5 S5 hu5 hgk hN hbl
      go_wp2_with fail
      rw [rounds_succ]
      have hn0 : n' = 0 := by
        obtain ⟨_, _, e, -, -⟩ := bytes_form (H5.out.2.2 w4 H4.out.1)
        cases e
        simp [H4.out.2.2.2.2.2]
      subst hn0
      go_wp2_with fail
      have hgk := H3.out.1
      have hk := H3.out.2.2.1
      have hm := H4.out.2.2.2.2.1
      have hN := HN.out
      simp at hm
      go_roundg (gk - m)
      case rel => exact ⟨k + m, g5, by omega, by simp, H5.out.1, H5.out.2.1⟩
      case measure => omega
    · have hR : b.length ≤ k := by omega
      have HR := Lib.hid (cp_read_end R3 hs3 hR)
      have H3 := Lib.hid (And.intro hgk (And.intro S3 (And.intro hk hs3)))
      clear hgk R3 S3 hs3 hk hN hR
      go_wp2_with fail
      refine HR.out.mono ?_
      rintro e4 w4 ⟨rfl, R4, T4⟩
      have H4 := Lib.hid (And.intro R4 (And.intro (H3.out.2.1.trans (Step.fresh _ T4)) H3.out.2.2.2))
      clear R4 T4
      go_wp2_with fail
      refine leaves_cons (f := 11) (args := #[pt sb, .int .i64 3]) (by simp) (by simp [go_sem]) ?_
      refine (close_wr_d H4.out.1 H4.out.2.2 (i := 3) (path := nSub) (b := b.take k) rfl (Nat.le_add_left 3 997) (by decide)).mono ?_
      rintro e5 u' w5 ⟨rfl, rfl, g5, R5, S5⟩
      refine leaves_cons (f := 11) (args := #[pt sb, .int .i64 2]) (by simp [settle]) (by simp [go_sem]) ?_
      refine (close_rd_d R5 (S5.s.trans H4.out.2.2) (i := 2) (path := nOne) (b := b.drop k) rfl (Nat.le_add_left 3 997)).mono ?_
      rintro e6 u' w6 ⟨rfl, rfl, g6, R6, S6⟩
      refine ⟨_, results_tmp2 rfl _ _ _, ?_, g6, ?_, H4.out.2.1.trans (S5.trans S6)⟩
      · have e1 := H3.out.1
        have e2 := H3.out.2.2.1
        have e3 : k = N := by omega
        rw [← e3]
        rfl
      · have e : ({ CpS b k with handles := upd (upd (CpH b k) 3 none) 2 none, files := updB (F1 b) nSub (some (b.take k)) } : SS) = CpE b := by
          rw [cp_end, List.take_of_length_le (by rw [HN.out]; have := H3.out.2.2.1; omega)]
          rfl
        rw [← e]
        exact R6
end
end Go.Str
