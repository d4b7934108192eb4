/-
  need, valid, New and all, walked: and what goes through the blocks.
-/
import Derived.RangeFuncNested
import Derived.RangeFuncBound
import Derived.RangeFuncCalls
import Derived.RangeFuncLeaves
import Derived.RangeFuncFrom
import Derived.Shelf.Abstract
import Derived.Shelf.RegionOpen
import Derived.WalkKit
import Derived.OwnWalkIn
import Derived.TacticsInMore
import Derived.LoopNIn
import Derived.LoopIn
import Derived.Test.YtahfoejffibahaaQStoModel
import Derived.Test.YtahfoejffibahaaChecked
set_option linter.unusedVariables false

namespace Go.Sto
open Go.Own Go.RowKit Go.Proofs Go.Shelf
attribute [local go_sem] Oper.semAt_some

theorem need_calls (k : Int) (h0 : 0 ≤ k) (h1 : k ≤ 32000) (w : World) :
    Calls Try.prog 45 #[.int .i64 k] w fun e w' => e = .returned (.int .i64 (need k)) ∧ w' = w := by
  obtain ⟨m, rfl⟩ := Int.eq_ofNat_of_zero_le h0
  go_enter Try.func45, Try.ntmps45
  have e : ((need m : Nat) : Int) = max 2 (((m : Int) + 2) / 2 * 2) := by simp only [need, Int.toNat_natCast]; omega
  go_wp2
  all_goals (go_ret; refine ⟨?_, rfl⟩; show Ending.returned (Value.int .i64 _) = Ending.returned (Value.int .i64 _); congr 2; omega)

theorem valid_calls (n : Int) (w : World) :
    Calls Try.prog 44 #[.int .i64 n] w fun e w' => e = .returned (.bool (decide (4 ≤ n ∧ n ≤ 32000 ∧ n % 2 = 0))) ∧ w' = w := by
  go_enter Try.func44, Try.ntmps44
  by_cases h0 : 4 ≤ n
  · by_cases h1 : n ≤ 32000
    · go_wp2
      go_ret
      refine ⟨?_, rfl⟩
      show Ending.returned (Value.bool (n % 2 == 0)) = _
      simp [h0, h1]
      rfl
    · go_wp2
      go_ret
      refine ⟨?_, rfl⟩; show Ending.returned (Value.bool false) = _; simp; omega
  · go_wp2
    go_ret
    refine ⟨?_, rfl⟩; show Ending.returned (Value.bool false) = _; simp; omega

theorem all_in (F : Fence) (n : Nat) (h5 : F.fn 46) (hro : F.round = none) (p0 : Option Addr) (w : World) :
    CallsIn F n Try.prog 46 #[.pointer p0] w fun e w' => e = .returned (.func (.func 71) #[] #[.pointer (some ⟨w.heap.size, 0, none⟩)]) ∧ w' = w.alloc (.cells #[.pointer p0] 33) := by
  refine callsIn_of_wp Try.func46 rfl h5 ?_ hro
  simp only [Try.ntmps46, List.size_toArray, List.length_cons, List.length_nil, Nat.reduceAdd, Nat.reduceSub, Array.replicate_succ, Array.replicate_zero, List.push_toArray, List.append_toArray, List.nil_append, List.cons_append]
  gi_wp2
  go_ret
  exact ⟨rfl, rfl⟩

/-! ### What goes through the blocks -/

structure IsL (n₀ : Nat) (w : World) (s : Nat) (L : List Nd) : Prop where
  st : s < n₀ ∧ w.cell? ⟨s, 1, none⟩ = some (ptr (hd L none))
  nx : ∀ A x B, L = A ++ x :: B → x.p < n₀ ∧ w.cell? ⟨x.p, 4, none⟩ = some (ptr (hd B none))
  nodup : (L.map Nd.p).Nodup

theorem IsL.below {n₀ s : Nat} {w w' : World} {L : List Nd} (h : IsL n₀ w s L) (hb : Below n₀ w w') : IsL n₀ w' s L :=
  ⟨⟨h.st.1, (hb.cell (p := ⟨s, 1, none⟩) h.st.1).trans h.st.2⟩, fun A x B e => ⟨(h.nx A x B e).1, (hb.cell (p := ⟨x.p, 4, none⟩) (h.nx A x B e).1).trans (h.nx A x B e).2⟩, h.nodup⟩

theorem Rep.isL {g : Ghost} {S : St} {w : World} (h : Rep g S w) : IsL w.heap.size w g.s g.L :=
  ⟨⟨heap_lt h.st, h.st_cells.2⟩, fun A x B e => ⟨h.plt (by rw [e]; simp), (nd_cells (h.mid e)).2.2.2.2.1⟩, h.nodup⟩

/-- How many blocks are still to come. -/
def left (L : List Nd) : Value → Nat
  | .pointer (some a) => L.length - (L.map Nd.p).idxOf a.block
  | _ => 0

theorem idx_of {A B : List Nd} {x : Nd} (h : ((A ++ x :: B).map Nd.p).Nodup) : ((A ++ x :: B).map Nd.p).idxOf x.p = A.length := by
  rw [List.map_append, List.map_cons] at h ⊢
  have hn : x.p ∉ A.map Nd.p := fun hm => by
    have := (List.nodup_append.1 h).2.2 _ hm x.p (by simp)
    exact this rfl
  rw [List.idxOf_append, if_neg hn]
  simp

abbrev In (L : List Nd) := { x : Nd // x ∈ L }
def vals {L : List Nd} (l : List (In L)) : List Nd := l.map (·.1)
theorem vals_snoc {L : List Nd} (l : List (In L)) (x : In L) : vals (l ++ [x]) = vals l ++ [x.1] := by simp [vals]

set_option maxRecDepth 100000 in
set_option maxHeartbeats 1000000 in
theorem all1_in (F : Fence) (n : Nat) (h6 : F.fn 71) (hro : F.round = none) (hn : 1 ≤ n) (l Bn n₀ s : Nat) (L : List Nd) (J Jx : List (In L) → World → Prop)
    (hY : ∀ pre (x : In L) W, J pre W → pre.length < L.length → YieldAt F (n - 1) Try.prog l #[.pointer (some ⟨x.1.p, 0, none⟩)] W fun e W' =>
      (e = .returned (.bool true) ∧ J (pre ++ [x]) W' ∧ Below n₀ W W') ∨ (e = .returned (.bool false) ∧ Jx (pre ++ [x]) W'))
    (W : World) (hBn : W.cell? ⟨Bn, 0, none⟩ = some (.pointer (some ⟨s, 0, none⟩))) (hL : IsL n₀ W s L) (h0 : J [] W) :
    CallsIn F n Try.prog 71 #[.func (.yield l) #[] #[], .pointer (some ⟨Bn, 0, none⟩)] W fun e W' => (∃ v, e = .returned v) ∧
      ((∃ ys, vals ys = L ∧ J ys W') ∨ (∃ pre, vals pre <+: L ∧ Jx pre W')) := by
  refine callsIn_of_wp Try.func71 rfl h6 ?_ hro
  simp only [Try.ntmps71, List.size_toArray, List.length_cons, List.length_nil, Nat.reduceAdd, Nat.reduceSub, Array.replicate_succ, Array.replicate_zero, List.push_toArray, List.append_toArray, List.nil_append, List.cons_append]
  have hs1 := hL.st.2
  obtain ⟨q0, hq0⟩ : ∃ q, ptr (hd L none) = q := ⟨_, rfl⟩
  rw [hq0] at hs1
  have HQ0 := Lib.hid hq0
  clear hq0
  gi_wp2
  clear hs1
  gi_loopw [3] (fun p wr => ∃ (pre : List (In L)) (rest : List Nd), p = ptr (hd rest none) ∧ L = vals pre ++ rest ∧ IsL n₀ wr s L ∧ J pre wr)
    (fun p wr => left L p)
  case atStart =>
    exact ⟨[], L, HQ0.out.symm, rfl, hL, h0⟩
  case round =>
    obtain ⟨pre, rest, rfl, hx, hl, hJs⟩ := hrel
    cases rest with
    | nil =>
      have HX := Lib.hid hx
      clear hx
      simp only [hd, ptr_none]
      gi_wp2
      go_end0
      exact ⟨⟨_, rfl⟩, .inl ⟨pre, by have := HX.out; rw [List.append_nil] at this; exact this.symm, hJs⟩⟩
    | cons x rest =>
      have hxL : x ∈ L := by rw [hx]; simp
      have hlen : pre.length < L.length := by have := congrArg List.length hx; simp [vals] at this; omega
      obtain ⟨hb, hq⟩ := hl.nx _ x rest hx
      have HX := Lib.hid hx
      clear hx
      simp only [hd, ptr_some]
      obtain ⟨fn, tmps, assign, body, hy, hR⟩ := hY pre ⟨x, hxL⟩ wr hJs hlen
      gi_wp2
      refine hR.mono ?_
      rintro e W3 (⟨rfl, hJ3, hk3⟩ | ⟨rfl, hJx3⟩)
      · have hq3 : W3.cell? ⟨x.p, 4, none⟩ = some (ptr (hd rest none)) := (hk3.cell (p := ⟨x.p, 4, none⟩) hb).trans hq
        obtain ⟨q1, hq1⟩ : ∃ q, ptr (hd rest none) = q := ⟨_, rfl⟩
        rw [hq1] at hq3
        have HQ1 := Lib.hid hq1
        clear hq1 hq
        gi_wp2
        go_roundw
        case rel => exact ⟨pre ++ [⟨x, hxL⟩], rest, HQ1.out.symm, by rw [vals_snoc, List.append_assoc]; exact HX.out, hl.below hk3, hJ3⟩
        case measure =>
          rw [← HQ1.out]
          have hnd := hl.nodup
          have e0 := HX.out
          cases rest with
          | nil =>
            simp only [hd, ptr_none, left]
            rw [e0] at hnd
            have := idx_of hnd
            rw [← e0] at this
            rw [this]
            simp [vals]; omega
          | cons y rest =>
            simp only [hd, ptr_some, left]
            rw [e0] at hnd
            have h1 := idx_of hnd
            have h2 := idx_of (A := vals pre ++ [x]) (x := y) (B := rest) (by simpa using hnd)
            rw [← e0] at h1
            have e1 : vals pre ++ [x] ++ y :: rest = L := by rw [List.append_assoc]; exact e0.symm
            rw [e1] at h2
            rw [h1, h2]
            simp [vals]; omega
      · gi_wp2
        refine bodyPost_ret (results_none rfl _ _ _) rfl ?_
        exact ⟨⟨_, rfl⟩, .inr ⟨pre ++ [⟨x, hxL⟩], ⟨rest, by rw [vals_snoc, List.append_assoc]; exact HX.out.symm⟩, hJx3⟩⟩

theorem all_stops (F : Fence) (n : Nat) (h6 : F.fn 71) (hro : F.round = none) (hn : 1 ≤ n) (Bn n₀ s : Nat) (L : List Nd) (w : World) (hBn : Bn < w.heap.size) (hn₀ : n₀ ≤ w.heap.size)
    (hc : w.cell? ⟨Bn, 0, none⟩ = some (.pointer (some ⟨s, 0, none⟩))) (hL : IsL n₀ w s L) :
    SeqStopsK F n Try.prog 71 #[.pointer (some ⟨Bn, 0, none⟩)] (fun x : In L => #[Value.pointer (some ⟨x.1.p, 0, none⟩)]) (Below n₀) (fun ys => vals ys = L) (fun pre => vals pre <+: L) L.length w := fun l J Jx W hW _ _ hY h0 =>
  all1_in F n h6 hro hn l Bn n₀ s L J Jx hY W ((hW.cell (p := ⟨Bn, 0, none⟩) hBn).trans hc) (hL.below (hW.mono hn₀)) h0
end Go.Sto
