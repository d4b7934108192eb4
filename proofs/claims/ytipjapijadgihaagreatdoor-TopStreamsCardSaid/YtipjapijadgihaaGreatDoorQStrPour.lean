/-
  poured: its states, and each call of it.
-/
import Derived.Test.YtipjapijadgihaaGreatDoorQStrCopy
set_option linter.unusedVariables false

namespace Go.Str
open Go.Own Go.RowKit Go.Proofs

section
variable {g g' : Gh} {S : SS} {w w' : World} {b A Pb O : Bytes} {c : Bool} {k m : Nat}

theorem upd_upd {α : Type} (f : Int → α) (k : Int) (x y : α) : upd (upd f k x) k y = upd f k y := by
  funext j
  by_cases e : j = k
  · subst e; rw [upd_self, upd_self]
  · rw [upd_ne _ _ e, upd_ne _ _ e, upd_ne _ _ e]
theorem upd_comm {α : Type} (f : Int → α) {k l : Int} (h : k ≠ l) (x y : α) : upd (upd f k x) l y = upd (upd f l y) k x := by
  funext j
  by_cases e : j = k
  · subst e; rw [upd_self, upd_ne _ _ h, upd_self]
  · rw [upd_ne _ _ e]
    by_cases e' : j = l
    · subst e'; rw [upd_self, upd_self]
    · rw [upd_ne _ _ e', upd_ne _ _ e', upd_ne _ _ e]
theorem updB_updB {α : Type} (f : Bytes → α) (k : Bytes) (x y : α) : updB (updB f k x) k y = updB f k y := by
  funext j
  by_cases e : j = k
  · subst e; rw [updB_self, updB_self]
  · rw [updB_ne _ _ e, updB_ne _ _ e, updB_ne _ _ e]

def nPipeMid : Bytes := [112, 105, 112, 101, 58, 109, 105, 100]
def nRamThree : Bytes := [114, 97, 109, 58, 116, 104, 114, 101, 101]
def F3 (b : Bytes) : Bytes → Option Bytes := updB (F2 b) nThree (some b)

def hn : Int → Option Hd := fun _ => none
def MP (Pb : Bytes) (c : Bool) : Bytes → Option Pp := updB (fun _ => none) nMid (some ⟨Pb, true, !c, true, true⟩)
def oen (c : Bool) : Option Hd := if c then none else some (.en nMid false)
def PoH (A : Bytes) (c : Bool) (O : Bytes) : Int → Option Hd := upd (upd (upd (upd hn 4 (some (.rd nSub A))) 5 (oen c)) 6 (some (.en nMid true))) 7 (some (.wr nThree O))
def Po1 (b : Bytes) : SS := ⟨F2 b, fun _ => none, AS, upd hn 4 (some (.rd nSub b)), 4⟩
def Po2 (b : Bytes) : SS := ⟨F2 b, updB (fun _ => none) nMid (some ⟨[], true, true, false, false⟩), AS, upd (upd hn 4 (some (.rd nSub b))) 5 (some (.en nMid false)), 5⟩
def Po3 (b : Bytes) : SS := ⟨F2 b, MP [] false, AS, upd (upd (upd hn 4 (some (.rd nSub b))) 5 (some (.en nMid false))) 6 (some (.en nMid true)), 6⟩
def PoS (b A Pb O : Bytes) (c : Bool) : SS := ⟨F2 b, MP Pb c, AS, PoH A c O, 7⟩
/-- Closed: the reader; the pipe's end; the writer. -/
def Pe1 (b Pb O : Bytes) : SS := ⟨F2 b, MP Pb true, AS, upd (upd hn 6 (some (.en nMid true))) 7 (some (.wr nThree O)), 7⟩
def Pe2 (b O : Bytes) : SS := ⟨F2 b, fun _ => none, AS, upd hn 7 (some (.wr nThree O)), 7⟩
def PoE (b : Bytes) : SS := ⟨F3 b, fun _ => none, AS, fun _ => none, 7⟩

theorem resolve_ram (hE : Env w) (sb : Nat) : Calls Tryz.prog 32 #[pt sb, .string (bs nRamSubTwo)] w fun e w' => e = .returned (.tuple #[.string (bs nRamSubTwo), .int .i64 0]) ∧ Turn (fun _ => False) w w' :=
  resolve_given (p := lRam) (q := nSub) (by decide) (by decide) (.inl rfl) (by decide) hE sb
theorem resolve_three (hE : Env w) (sb : Nat) : Calls Tryz.prog 32 #[pt sb, .string (bs nThree)] w fun e w' => e = .returned (.tuple #[.string (bs nRamThree), .int .i64 0]) ∧ Turn (fun _ => False) w w' :=
  resolve_given (p := lRam) (q := nThree) (by decide) (by decide) (.inl rfl) (by decide) hE sb
theorem resolve_mid (hE : Env w) (sb : Nat) : Calls Tryz.prog 32 #[pt sb, .string (bs nPipeMid)] w fun e w' => e = .returned (.tuple #[.string (bs nPipeMid), .int .i64 0]) ∧ Turn (fun _ => False) w w' :=
  resolve_given (p := lPipe) (q := nMid) (by decide) (by decide) (.inr rfl) (by decide) hE sb

theorem po_open1 (h : Rep g (CpE b) w) {sb : Nat} (hs : g.s = sb) (hb : b.length ≤ 2000) : Calls Tryz.prog 9 #[pt sb, .string (bs nRamSubTwo), .int .i64 0] w (HandPost g (Po1 b) 4 w) :=
  open_file_read h hs (to_ := nRamSubTwo) (path := nSub) (b := b) (Nat.le_add_left 3 15) (resolve_ram h.base.env sb) (by decide) (by decide) (by decide) (by decide) (show updB (F1 b) nSub (some b) nSub = some b from updB_self _ _ _) (by omega)
theorem po_open2 (h : Rep g (Po1 b) w) {sb : Nat} (hs : g.s = sb) : Calls Tryz.prog 9 #[pt sb, .string (bs nPipeMid), .int .i64 1] w (HandPost g (Po2 b) 5 w) :=
  open_gen h hs (to_ := nPipeMid) (.inr rfl) (P' := updB (fun _ => none) nMid (some ⟨[], true, true, false, false⟩)) (x := .en nMid false) (Nat.le_add_left 4 14) (by decide) (resolve_mid h.base.env sb)
    (fun w1 T => (open_pipe_new (h.new T) hs (by decide) (by decide) (by decide) (fun _ => rfl)))
    (fun name r e => by cases e; exact ⟨_, updB_self _ _ _⟩)
theorem po_open3 (h : Rep g (Po2 b) w) {sb : Nat} (hs : g.s = sb) : Calls Tryz.prog 9 #[pt sb, .string (bs nPipeMid), .int .i64 0] w (HandPost g (Po3 b) 6 w) := by
  have hh := open_gen h hs (to_ := nPipeMid) (.inl rfl) (P' := updB (updB (fun _ => none) nMid (some ⟨[], true, true, false, false⟩)) nMid (some ⟨[], true, true, true, true⟩)) (x := .en nMid true) (Nat.le_add_left 5 13) (by decide) (resolve_mid h.base.env sb)
    (fun w1 T => (open_pipe_old (h.new T) hs (name := nMid) (by decide) (by decide) (by decide) (x := ⟨[], true, true, false, false⟩) (updB_self (fun _ => none) nMid _) rfl))
    (fun name r e => by cases e; exact ⟨_, updB_self _ _ _⟩)
  rw [updB_updB] at hh
  exact hh
theorem po_open4 (h : Rep g (Po3 b) w) {sb : Nat} (hs : g.s = sb) : Calls Tryz.prog 9 #[pt sb, .string (bs nThree), .int .i64 1] w (HandPost g (PoS b b [] [] false) 7 w) :=
  open_file_write h hs (to_ := nRamThree) (path := nThree) (Nat.le_add_left 6 12) (resolve_three h.base.env sb) (by decide) (by decide) (by decide) (by decide) (fun i p c hi => by
    have hi' : upd (upd (upd hn 4 (some (.rd nSub b))) 5 (some (.en nMid false))) 6 (some (.en nMid true)) i = some (.wr p c) := hi
    by_cases e : i = 6
    · subst e; rw [upd_self] at hi'; cases hi'
    · rw [upd_ne _ _ e] at hi'
      by_cases e : i = 5
      · subst e; rw [upd_self] at hi'; cases hi'
      · rw [upd_ne _ _ e] at hi'
        by_cases e : i = 4
        · subst e; rw [upd_self] at hi'; cases hi'
        · rw [upd_ne _ _ e] at hi'; cases hi')

theorem poH_set4 (A A' : Bytes) (c : Bool) (O : Bytes) : upd (PoH A c O) 4 (some (.rd nSub A')) = PoH A' c O := by
  unfold PoH
  rw [upd_comm _ (by decide), upd_comm _ (by decide : (6 : Int) ≠ 4), upd_comm _ (by decide : (5 : Int) ≠ 4), upd_upd]
theorem poH_set5 (A O : Bytes) (c : Bool) : upd (PoH A c O) 5 none = PoH A true O := by
  unfold PoH
  rw [upd_comm _ (by decide), upd_comm _ (by decide : (6 : Int) ≠ 5), upd_upd]
  rfl
theorem poH_set7 (A O O' : Bytes) (c : Bool) : upd (PoH A c O) 7 (some (.wr nThree O')) = PoH A c O' := by
  unfold PoH
  rw [upd_upd]

theorem po_read (h : Rep g (PoS b A Pb O c) w) {sb : Nat} (hs : g.s = sb) (hA : A ≠ []) (hl : A.length ≤ 2000) {n : Nat} (h1 : 1 ≤ n) (h2 : n ≤ 100) :
    Calls Tryz.prog 21 #[pt sb, .int .i64 4, .int .i64 n] w (ReadPost g (PoS b (A.drop (min n A.length)) Pb O c) (A.take (min n A.length)) w) := by
  have hh := read_rd h hs (i := 4) (path := nSub) (b := A) (n := n) rfl (Nat.le_add_left 7 993) hA (by omega) h1 (by omega)
  have e : ({ PoS b A Pb O c with handles := upd (PoS b A Pb O c).handles 4 (some (.rd nSub (A.drop (min n A.length)))) } : SS) = PoS b (A.drop (min n A.length)) Pb O c := by
    unfold PoS
    rw [poH_set4]
  rw [e] at hh
  exact hh
theorem po_read_end (h : Rep g (PoS b [] Pb O c) w) {sb : Nat} (hs : g.s = sb) {n : Nat} (h1 : 1 ≤ n) (h2 : n ≤ 100) :
    Calls Tryz.prog 21 #[pt sb, .int .i64 4, .int .i64 n] w (EndPost g (PoS b [] Pb O c) w) :=
  read_rd_end h hs (path := nSub) (n := n) rfl (Nat.le_add_left 7 993) h1 (by omega)
theorem po_put (h : Rep g (PoS b A Pb O false) w) {sb : Nat} (hs : g.s = sb) {L : Bytes} {u : Value} (hu : SliceAt w 5 1 u (bcells L)) (hL : L ≠ []) (hl : L.length ≤ 2000) (hp : Pb.length < 64) :
    Calls Tryz.prog 10 #[pt sb, .int .i64 5, u] w (WritePost g (PoS b A (Pb ++ L.take (fits 64 Pb L)) O false) (fits 64 Pb L) w) := by
  have hh := write_en h hs (i := 5) (name := nMid) (ys := L) (x := ⟨Pb, true, true, true, true⟩) rfl (updB_self (fun _ => none) nMid _) (Nat.le_add_left 7 993) hu (by omega) (by show Pb.length ≤ 64; omega) (by show Pb.length ≠ 64; omega) hL (fun _ => rfl)
  have e : ({ PoS b A Pb O false with pipes := updB (PoS b A Pb O false).pipes nMid (some ⟨Pb ++ L.take (fits 64 Pb L), true, true, true, true⟩) } : SS) = PoS b A (Pb ++ L.take (fits 64 Pb L)) O false := by
    unfold PoS MP
    rw [updB_updB]
    rfl
  rw [← e]
  exact hh
theorem po_full (h : Rep g (PoS b A Pb O false) w) {sb : Nat} (hs : g.s = sb) {L : Bytes} {u : Value} (hu : SliceAt w 5 1 u (bcells L)) (hL : L ≠ []) (hp : Pb.length = 64) :
    Calls Tryz.prog 10 #[pt sb, .int .i64 5, u] w (FullPost g (PoS b A Pb O false) w) :=
  write_full h hs (i := 5) (name := nMid) (ys := L) (x := ⟨Pb, true, true, true, true⟩) rfl (updB_self (fun _ => none) nMid _) (Nat.le_add_left 7 993) hu hp hL (fun _ => rfl)
theorem po_closew (h : Rep g (PoS b A Pb O false) w) {sb : Nat} (hs : g.s = sb) :
    Calls Tryz.prog 11 #[pt sb, .int .i64 5] w (ClosePost g (PoS b A Pb O true) w) := by
  have hh := close_en1 h hs (i := 5) (name := nMid) (x := ⟨Pb, true, true, true, true⟩) rfl (updB_self (fun _ => none) nMid _) (Nat.le_add_left 7 993) rfl
  have e : ({ PoS b A Pb O false with handles := upd (PoS b A Pb O false).handles 5 none, pipes := updB (PoS b A Pb O false).pipes nMid (some ⟨Pb, true, false, true, true⟩) } : SS) = PoS b A Pb O true := by
    unfold PoS MP
    rw [updB_updB, poH_set5]
    rfl
  rw [← e]
  exact hh
theorem po_take (h : Rep g (PoS b A Pb O c) w) {sb : Nat} (hs : g.s = sb) (hP : Pb ≠ []) (hl : Pb.length ≤ 64) :
    Calls Tryz.prog 21 #[pt sb, .int .i64 6, .int .i64 7] w (ReadPost g (PoS b A (Pb.drop (min 7 Pb.length)) O c) (Pb.take (min 7 Pb.length)) w) := by
  have hh := read_en h hs (i := 6) (name := nMid) (x := ⟨Pb, true, !c, true, true⟩) (n := 7) rfl (updB_self (fun _ => none) nMid _) (Nat.le_add_left 7 993) rfl hP (by show Pb.length ≤ 100000; omega) (by decide) (by decide)
  have e : ({ PoS b A Pb O c with pipes := updB (PoS b A Pb O c).pipes nMid (some ⟨Pb.drop (min 7 Pb.length), true, !c, true, true⟩) } : SS) = PoS b A (Pb.drop (min 7 Pb.length)) O c := by
    unfold PoS MP
    rw [updB_updB]
  rw [← e]
  exact hh
theorem po_take_end (h : Rep g (PoS b A [] O true) w) {sb : Nat} (hs : g.s = sb) :
    Calls Tryz.prog 21 #[pt sb, .int .i64 6, .int .i64 7] w (EndPost g (PoS b A [] O true) w) :=
  read_en_end h hs (i := 6) (name := nMid) (x := ⟨[], true, false, true, true⟩) (n := 7) rfl (updB_self (fun _ => none) nMid _) (Nat.le_add_left 7 993) rfl rfl (by decide) (by decide) rfl
theorem po_out (h : Rep g (PoS b A Pb O c) w) {sb : Nat} (hs : g.s = sb) {ys : Bytes} {u : Value} (hu : SliceAt w 5 1 u (bcells ys)) (hl : O.length + ys.length ≤ 2000) :
    Calls Tryz.prog 10 #[pt sb, .int .i64 7, u] w (WritePost g (PoS b A Pb (O ++ ys) c) ys.length w) := by
  have hh := write_wr h hs (i := 7) (path := nThree) (xs := O) (ys := ys) rfl (Nat.le_add_left 7 993) hu (by omega)
  have e : ({ PoS b A Pb O c with handles := upd (PoS b A Pb O c).handles 7 (some (.wr nThree (O ++ ys))) } : SS) = PoS b A Pb (O ++ ys) c := by
    unfold PoS
    rw [poH_set7]
  rw [← e]
  exact hh

theorem po_close1 (h : Rep g (PoS b A Pb O true) w) {sb : Nat} (hs : g.s = sb) : Calls Tryz.prog 11 #[pt sb, .int .i64 4] w (ClosePost g (Pe1 b Pb O) w) := by
  have hh := close_rd h hs (i := 4) (path := nSub) (b := A) rfl (Nat.le_add_left 7 993)
  have e : ({ PoS b A Pb O true with handles := upd (PoS b A Pb O true).handles 4 none } : SS) = Pe1 b Pb O := by
    unfold PoS Pe1 PoH oen
    simp only [if_true]
    rw [upd_comm _ (by decide), upd_comm _ (by decide : (6 : Int) ≠ 4), upd_comm _ (by decide : (5 : Int) ≠ 4), upd_upd]
    have e1 : upd (upd hn 4 none) 5 none = hn := by
      funext j
      unfold upd
      split
      · rfl
      · split <;> rfl
    rw [e1]
  rw [← e]
  exact hh
theorem po_close2 (h : Rep g (Pe1 b Pb O) w) {sb : Nat} (hs : g.s = sb) : Calls Tryz.prog 11 #[pt sb, .int .i64 6] w (ClosePost g (Pe2 b O) w) := by
  have hh := close_en2 h hs (i := 6) (name := nMid) (x := ⟨Pb, true, false, true, true⟩) rfl (updB_self (fun _ => none) nMid _) (Nat.le_add_left 7 993) (by decide) rfl rfl rfl (fun j r hj e => by
    have e' : upd (upd hn 6 (some (Hd.en nMid true))) 7 (some (.wr nThree O)) j = some (.en nMid r) := e
    by_cases e7 : j = 7
    · subst e7; rw [upd_self] at e'; cases e'
    · rw [upd_ne _ _ e7, upd_ne _ _ hj] at e'; cases e')
  have e : ({ Pe1 b Pb O with handles := upd (Pe1 b Pb O).handles 6 none, pipes := updB (Pe1 b Pb O).pipes nMid none } : SS) = Pe2 b O := by
    unfold Pe1 Pe2 MP
    simp only
    rw [updB_updB, upd_comm _ (by decide), upd_upd]
    have e1 : upd hn 6 none = hn := by
      funext j
      unfold upd
      split <;> rfl
    have e2 : updB (fun _ => (none : Option Pp)) nMid none = fun _ => none := by
      funext j
      unfold updB
      split <;> rfl
    rw [e1, e2]
  rw [← e]
  exact hh
theorem po_close3 (h : Rep g (Pe2 b b) w) {sb : Nat} (hs : g.s = sb) : Calls Tryz.prog 11 #[pt sb, .int .i64 7] w (ClosePost g (PoE b) w) := by
  have hh := close_wr h hs (i := 7) (path := nThree) (b := b) rfl (Nat.le_add_left 7 993) (by decide)
  have e : ({ Pe2 b b with handles := upd (Pe2 b b).handles 7 none, files := updB (Pe2 b b).files nThree (some b) } : SS) = PoE b := by
    unfold Pe2 PoE F3
    simp only
    rw [upd_upd]
    have e1 : upd hn 7 none = hn := by
      funext j
      unfold upd
      split <;> rfl
    rw [e1]
    rfl
  rw [← e]
  exact hh

/-- A slice that is not the streams'. -/
def Free (g : Gh) (w : World) (v : Value) (xs : List Value) : Prop := SliceAt w 5 1 v xs ∧ ∀ k, v.ownBlock = some k → (g.ρ k).1 = 0
theorem Free.step {v : Value} {xs : List Value} (h : Free g w v xs) (hs : Step g g' w w') : Free g' w' v xs :=
  ⟨h.1.turn hs.turn fun k hk e => e (h.2 k hk), fun k hk => (hs.tags k (h.1.lt k hk)).2 (h.2 k hk)⟩
theorem Free.nil : Free g w (.slice none 0 0) [] := ⟨SliceAt.nil _ _ _, fun k hk => by simp [Value.ownBlock] at hk⟩
end
end Go.Str
