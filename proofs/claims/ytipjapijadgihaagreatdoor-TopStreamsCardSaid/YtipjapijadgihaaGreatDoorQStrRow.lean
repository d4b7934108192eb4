/-
  Rows of bytes: Clone, put, take, walked. (Printed by lib/pl.py out of str/gen/StrRow.src.)
-/
import Derived.Deep.CutRange
import Derived.Deep.LoopGhost
import Derived.BigQuiet
import Derived.Lib.LazyBuf
import Derived.Test.YtipjapijadgihaaGreatDoorQStrRep
import Derived.Test.YtipjapijadgihaaGreatDoorQOwnRegionH
set_option linter.unusedVariables false

namespace Go.Str
open Go.Own Go.RowKit Go.Proofs

theorem elemU8 : Elem Tryz.prog 5 1 1 (.int .u8 0) := Elem.mk' (by kernel_rfl) rfl (by decide)

theorem bytes_form {w : World} {v : Value} {xs : List Value} (h : SliceAt w 5 1 v xs) : ∃ a cap, v = .slice a xs.length cap ∧ xs.length ≤ cap ∧ cap ≤ maxLen := by
  obtain ⟨a, n, cap, rfl, hl, hn, hm, -⟩ := h.form
  rw [Nat.mul_one] at hl
  subst hl
  exact ⟨a, cap, rfl, hn, hm⟩

theorem run_eql_nil (w : World) (a : Option Addr) (n c : Nat) : (binOp .eql 30 (.slice a n c) (.slice none 0 0)).run Tryz.prog w = .ok (.bool a.isNone) w := run_eql_slice_nil w _ _ a n c Tryz.underlying30

/-- s[:m] -/
theorem run_slice_to (w : World) (a : Option Addr) (n m c : Nat) (hm : m ≤ c) (ha : ∀ x, a = some x → x.spot = none) : (Instr.sliceAt 30 (.slice a n c) none (some (.int .i64 m)) none).run Tryz.prog w = .ok (.slice a m c) w := by
  have hu := run_underlying Tryz.underlying30 w
  have hz := Tryz.sizeOf5 w
  have h1 : (m : Int) ≤ (c : Int) := by omega
  have hadd : ∀ x, a = some x → x.add 0 = x := fun x hx => by
    have := ha x hx
    obtain ⟨b, o, sp⟩ := x
    simp only at this
    subst this
    exact Addr.add_lit _ _ _
  cases a with
  | none => simp [Instr.sliceAt, Instr.slice, Instr.sliceBounds, Instr.sliceBound, asIntOf, hu]; intro h; omega
  | some x => simp [Instr.sliceAt, Instr.slice, Instr.sliceBounds, Instr.sliceBound, asIntOf, hu, hadd x rfl]; intro h; omega

section
variable {w : World}

/-- A clone: a slice of its own. -/
def ClonePost (w : World) (b : Bytes) (e : Ending) (w' : World) : Prop :=
  ∃ v', e = .returned v' ∧ SliceAt w' 5 1 v' (bcells b) ∧ Turn (fun _ => False) w w' ∧ ∀ k, v'.ownBlock = some k → w.heap.size ≤ k

set_option maxRecDepth 10000 in
set_option maxHeartbeats 1000000 in
theorem clone_calls {v : Value} {b : Bytes} (h : SliceAt w 5 1 v (bcells b)) (hl : b.length ≤ 100000) : Calls Tryz.prog 75 #[v] w (ClonePost w b) := by
  have H := Lib.hid (And.intro h hl)
  have h0 := h
  rcases h with ⟨rfl, hb⟩ | ⟨g, off, n, cap, cur, rfl, hg, hlen, hn, hm, hz, hx⟩
  · clear h0 hl
    have q := run_eql_nil w none 0 0
    go_enter Tryz.func75, Tryz.ntmps75
    go_wp2
    go_ret
    exact ⟨_, rfl, H.out.1, Turn.refl _ _, fun k hk => by simp [Value.ownBlock] at hk⟩
  · have hs : Src (w.alloc (.cells #[] 5)) 1 (.slice (some ⟨g, off, none⟩) n cap) n (bcells b) := Src.of_slice (h0.turn ((Turn.refl (fun _ => False) w).alloc _) (fun _ _ e => e))
    have HS := Lib.hid hs
    clear hs h0 hl hg hlen hn hm hz hx
    have hE : SliceAt (w.alloc (.cells #[] 5)) 5 1 (.slice (some ⟨w.heap.size, 0, none⟩) 0 0) [] := SliceAt.made (cur := #[]) (heap_alloc_new w _) rfl (Nat.zero_le _)
    have HE := Lib.hid hE
    clear hE
    have q := run_eql_nil w (some ⟨g, off, none⟩) n cap
    go_enter Tryz.func75, Tryz.ntmps75
    go_wp2_with (at_builtin; refine wpList_append _ rfl _ _ 30 30 rfl 5 1 1 (.int .u8 0) Tryz.underlying30 (.inr ⟨_, Tryz.underlying30⟩) elemU8 (.slice (some ⟨w.heap.size, 0, none⟩) 0 0) [] rfl HE.out _ _ _ rfl HS.out (bcells_one b) (by have := H.out.2; simp; omega) (by have := H.out.2; simp; omega) ?_; intro v' w1 hv' ht hw hn; clear hn; obtain ⟨va, vn, vc, rfl, -⟩ := hv'.form; have hF := Lib.hid (And.intro hv' (And.intro ht hw)); clear hv' ht hw)
    go_ret
    have T1 : Turn (fun _ => False) w w1 := by
      have t := hF.out.2.1
      refine ⟨t.os, t.tape, t.output, by have := t.size; simp at this; omega, fun k hk _ => ?_⟩
      rw [t.block k (by simp; omega) (fun e => by simp [Value.ownBlock] at e; omega)]
      exact heap_alloc_lt w _ k hk
    refine ⟨_, rfl, by simpa using hF.out.1, T1, fun k hk0 => ?_⟩
    have hk : (Value.slice va vn vc).ownBlock = some k := hk0
    rcases hF.out.2.2 with e | e
    · rw [e] at hk; simp [Value.ownBlock] at hk; omega
    · rw [e] at hk; simp at hk; omega

/-- As many of the things as there is room for. -/
def fits (most : Nat) (xs ys : Bytes) : Nat := min ys.length (most - xs.length)

/-- put: the row's cell holds the longer row. -/
def PutPost (w : World) (b o most : Nat) (v : Value) (xs ys : Bytes) (e : Ending) (w' : World) : Prop :=
  ∃ w1 v', e = .returned (.int .i64 (fits most xs ys : Nat)) ∧ w' = w1.setCell ⟨b, o, none⟩ v' ∧ SliceAt w1 5 1 v' (bcells (xs ++ ys.take (fits most xs ys))) ∧ Turn (fun k => v.ownBlock = some k) w w1 ∧
    (v'.ownBlock = v.ownBlock ∨ ∃ k, v'.ownBlock = some k ∧ w.heap.size ≤ k ∧ k < w1.heap.size)

theorem take_src {w : World} {u : Value} {ys : Bytes} (hu : SliceAt w 5 1 u (bcells ys)) {ua : Option Addr} {uc n : Nat} (e : u = .slice ua ys.length uc) (hn : n ≤ ys.length) : Src w 1 (.slice ua n uc) n (bcells (ys.take n)) := by
  subst e
  have := hu.take n hn
  rw [Nat.mul_one, bcells_take] at this
  exact Src.of_slice this

set_option maxRecDepth 10000 in
set_option maxHeartbeats 2000000 in
theorem rowput_calls {b o most : Nat} {v u : Value} {xs ys : Bytes} (hv : SliceAt w 5 1 v (bcells xs)) (hu : SliceAt w 5 1 u (bcells ys)) (c0 : w.cell? ⟨b, o, none⟩ = some v) (c1 : w.cell? ⟨b, o + 1, none⟩ = some (.int .i64 most)) (cf : w.frozen? ⟨b, o, none⟩ = false) (hne : v.ownBlock ≠ some b)
    (hxl : xs.length ≤ most) (hm : most ≤ 100000) (hyl : ys.length ≤ 100000) :
    Calls Tryz.prog 36 #[.pointer (some ⟨b, o, none⟩), u] w (PutPost w b o most v xs ys) := by
  obtain ⟨va, vc, rfl, hv1, hv2⟩ := bytes_form hv
  obtain ⟨ua, uc, rfl, hu1, hu2⟩ := bytes_form hu
  simp only [bcells_length] at hv hu c0 hv1 hu1 hne ⊢
  have hf1 : fits most xs ys ≤ ys.length := Nat.min_le_left _ _
  have hf2 : fits most xs ys ≤ most := by unfold fits; omega
  obtain ⟨n, hn⟩ : ∃ n, fits most xs ys = n := ⟨_, rfl⟩
  have hmin : ∃ z : Int, z = (n : Int) := ⟨_, rfl⟩
  have hw1 : IntKind.i64.wrap ((most : Int) - (xs.length : Int)) = ((most - xs.length : Nat) : Int) := by rw [IntWalk.i64_in _ (by omega)]; omega
  have hfn : n = min ys.length (most - xs.length) := hn.symm
  have hmn : min (ys.length : Int) ((most - xs.length : Nat) : Int) = (n : Int) := by omega
  have hlt := World.block_lt_of_cell? w _ c0
  have H := Lib.hid (And.intro hv (And.intro hu (And.intro hne (And.intro hn (And.intro hfn hlt)))))
  rw [hn] at hf1 hf2
  clear hv hu hne hn hfn hmin
  go_enter Tryz.func36, Tryz.ntmps36
  go_upto_region 1 with fail
  go_quiet (fail)
  go_upto_region 2 with fail
  obtain ⟨W, hW⟩ : ∃ W, w.drewN nq = W := ⟨_, rfl⟩
  have T0 : Turn (fun _ => False) w W.drew := by rw [← hW]; exact ⟨rfl, rfl, rfl, Nat.le_refl _, fun _ _ _ => rfl⟩
  have d0 : W.drew.cell? ⟨b, o, none⟩ = some (.slice va xs.length vc) := (T0.cell (p := ⟨b, o, none⟩) (fun e => e) H.out.2.2.2.2.2).trans c0
  have hSV : SliceAt W.drew 5 1 (.slice va xs.length vc) (bcells xs) := H.out.1.turn T0 (fun _ _ e => e)
  have hSU : SliceAt W.drew 5 1 (.slice ua ys.length uc) (bcells ys) := H.out.2.1.turn T0 (fun _ _ e => e)
  obtain ⟨v', w1, happ, hs1, ht1, ho1, -⟩ := run_append (P := Tryz.prog) W.drew 30 30 30 5 1 1 _ Tryz.underlying30 (.inr ⟨_, Tryz.underlying30⟩) elemU8 _ _ hSV _ n _ (take_src hSU rfl hf1) (bcells_one _) (by simp; omega) (by simp; omega)
  obtain ⟨v1, v2, v3, rfl, -⟩ := hs1.form
  have hw1f : w1.frozen? ⟨b, o, none⟩ = false := by
    rw [ht1.frozen (p := ⟨b, o, none⟩) (fun e => H.out.2.2.1 e) (by have := T0.size; have := H.out.2.2.2.2.2; dsimp only at this ⊢; omega), T0.frozen (p := ⟨b, o, none⟩) (fun e => e) H.out.2.2.2.2.2]
    exact cf
  have hw1c : w1.cell? ⟨b, o, none⟩ = some (.slice va xs.length vc) := (ht1.cell (p := ⟨b, o, none⟩) (fun e => H.out.2.2.1 e) (by have := T0.size; have := H.out.2.2.2.2.2; dsimp only at this ⊢; omega)).trans d0
  have HF := Lib.hid (And.intro hs1 (And.intro ht1 (And.intro ho1 T0)))
  have HA := Lib.hid happ
  have hsz : (W.drew).heap.size = w.heap.size := by rw [← hW]; rfl
  have HSZ := Lib.hid hsz
  have hsl := run_slice_to W.drew ua ys.length n uc (by omega) (fun x hx => by
    rcases H.out.2.1 with ⟨e, -⟩ | ⟨_, _, _, _, _, e, -⟩
    · rw [Value.slice.injEq] at e; rw [e.1] at hx; cases hx
    · rw [Value.slice.injEq] at e; rw [e.1] at hx; cases hx; rfl)
  clear hs1 ht1 ho1 T0 hSV hSU happ hsz
  rw [hW]
  clear hW
  refine wp_region_planG (aF := ?aFp) [8, 11] [[], [8], [8, 11]] 2 [(0, 0, 0), (0, 1, 1), (1, 0, 0), (1, 1, 1), (2, 0, 0), (3, 0, 0), (4, 0, 0), (5, 0, 0), (6, 0, 0), (7, 0, 0), (8, 0, 1), (9, 1, 1), (10, 1, 1), (11, 1, 2)]
    [W.drew, w1, w1.setCell ⟨b, o, none⟩ (.slice v1 v2 v3)]
    [.pointer (some ⟨b, o, none⟩), .pointer (some ⟨b, o, none⟩), .pointer (some ⟨b, o, none⟩), .pointer (some ⟨b, o, none⟩), .slice va xs.length vc, .slice ua ys.length uc, .int .i64 n, .slice ua n uc, .slice v1 v2 v3, .pointer (some ⟨b, o, none⟩), .pointer (some ⟨b, o, none⟩), undef]
    (by kernel_rfl) (by kernel_rfl) ?hFp rfl rfl rfl ?hobp ?hendp
  case hFp => simp only [putAll, Act.put]; go_simp; rfl
  case hobp =>
    repeat' (first
      | exact oblsG_nil
      | (refine oblsG_cons rfl rfl rfl ?_ ?_)
      | exact Runs.append rfl (.tmp 23) (.tmp 26) 30 30 rfl _ _ _ rfl rfl HA.out rfl
      | (apply Runs.skip rfl rfl; (focus (go_simp; try exact rfl)); exact rfl)
      | (apply Runs.value rfl; (focus (go_simp; try exact rfl)); exact rfl))
  case hendp =>
    go_wp2_with fail
    go_ret
    have T0 := HF.out.2.2.2
    refine ⟨w1, .slice v1 v2 v3, by rw [H.out.2.2.2.1]; rfl, rfl, ?_, ?_, ?_⟩
    · rw [bcells_append, H.out.2.2.2.1]; exact HF.out.1
    · exact (T0.mono fun _ _ e => e.elim).trans HF.out.2.1
    · rcases HF.out.2.2.1 with e | e
      · exact .inl e
      · exact .inr ⟨_, e, by have := HSZ.out; omega, HF.out.1.lt _ e⟩

/-- s[m:] -/
theorem run_slice_from {w0 : World} {a : Option Addr} {n m c : Nat} {xs : List Value} (h : SliceAt w0 5 1 (.slice a n c) xs) (hm : m ≤ n) :
    ∃ a' n' c', (∀ W, (Instr.sliceAt 30 (.slice a n c) (some (.int .i64 m)) none none).run Tryz.prog W = .ok (.slice a' n' c') W) ∧
      (∀ W, SliceAt W 5 1 (.slice a n c) xs → SliceAt W 5 1 (.slice a' n' c') (xs.drop m)) ∧ (Value.slice a' n' c').ownBlock = (Value.slice a n c).ownBlock := by
  have hu := fun w => run_underlying Tryz.underlying30 w
  have hz := fun w => Tryz.sizeOf5 w
  have h1 : (m : Int) ≤ (n : Int) := by omega
  have hx : xs.length = n := by obtain ⟨_, _, _, e, hl, -⟩ := h.form; cases e; omega
  have hnc : n ≤ c := by obtain ⟨_, _, _, e, -, hl, -⟩ := h.form; cases e; omega
  refine ⟨if c = m then a else a.map (·.add (m * 1)), n - m, c - m, fun W => ?_, fun W hW => ?_, ?_⟩
  · cases a with
    | none => simp [Instr.sliceAt, Instr.slice, Instr.sliceBounds, Instr.sliceBound, asIntOf, hu, hz]; intro h; omega
    | some x => simp [Instr.sliceAt, Instr.slice, Instr.sliceBounds, Instr.sliceBound, asIntOf, hu, hz]; intro h; omega
  · by_cases e : c = m
    · have e1 : n = m := by omega
      subst e
      obtain rfl := e1
      rw [if_pos rfl, Nat.sub_self, List.drop_eq_nil_of_le (by omega)]
      rcases hW with ⟨e, -⟩ | ⟨g, off, _, _, cur, e, hg, hh⟩
      · rw [Value.slice.injEq] at e
        rw [e.1]
        exact SliceAt.nil _ _ _
      · rw [Value.slice.injEq] at e
        rw [e.1]
        exact .inr ⟨g, off, 0, 0, cur, rfl, hg, by simp, Nat.le_refl _, Nat.zero_le _, by omega, by simp⟩
    · rw [if_neg e]
      rcases hW with ⟨e2, rfl⟩ | ⟨g, off, _, _, cur, e2, hg, hh⟩
      · rw [Value.slice.injEq] at e2
        obtain ⟨rfl, rfl, rfl⟩ := e2
        simp only [Option.map_none, List.drop_nil, Nat.zero_sub]
        exact SliceAt.nil _ _ _
      · rw [Value.slice.injEq] at e2
        obtain ⟨rfl, rfl, rfl⟩ := e2
        have hd : SliceAt W 5 1 (.slice (some ⟨g, off, none⟩) n c) xs := .inr ⟨g, off, n, c, cur, rfl, hg, hh⟩
        have := hd.drop m hm
        rw [Nat.mul_one] at this ⊢
        simp only [Option.map_some]
        rw [Addr.add_lit]
        exact this
  · by_cases e : c = m
    · rw [if_pos e]; cases a <;> rfl
    · rw [if_neg e]
      cases a with
      | none => rfl
      | some x =>
        simp only [Option.map_some, Value.ownBlock]
        obtain ⟨b, o, sp⟩ := x
        simp [Addr.add]
        try (split <;> rfl)

/-- take: what is taken, and the row's cell holds the rest. -/
def TakePost (w : World) (b o m : Nat) (v : Value) (xs : Bytes) (e : Ending) (w' : World) : Prop :=
  ∃ w1 v' u, e = .returned u ∧ w' = w1.setCell ⟨b, o, none⟩ v' ∧ SliceAt w1 5 1 u (bcells (xs.take m)) ∧ (∀ k, u.ownBlock = some k → w.heap.size ≤ k) ∧ Turn (fun _ => False) w w1 ∧
    SliceAt w1 5 1 v' (bcells (xs.drop m)) ∧ v'.ownBlock = v.ownBlock

set_option maxRecDepth 10000 in
set_option maxHeartbeats 2000000 in
theorem rowtake_calls {b o : Nat} {v : Value} {xs : Bytes} {k m : Nat} (hv : SliceAt w 5 1 v (bcells xs)) (c0 : w.cell? ⟨b, o, none⟩ = some v) (cf : w.frozen? ⟨b, o, none⟩ = false) (hl : xs.length ≤ 100000) (hm : m = min k xs.length) (_hk : k ≤ 100000) :
    Calls Tryz.prog 51 #[.pointer (some ⟨b, o, none⟩), .int .i64 k] w (TakePost w b o m v xs) := by
  obtain ⟨va, vc, rfl, hv1, hv2⟩ := bytes_form hv
  simp only [bcells_length] at hv c0 hv1 ⊢
  have hmn : min (k : Int) (xs.length : Int) = (m : Int) := by omega
  have hml : m ≤ xs.length := by omega
  have hlt := World.block_lt_of_cell? w _ c0
  obtain ⟨a', n', c', hfr, hfs, hfo⟩ := run_slice_from hv hml
  have hto := run_slice_to w va xs.length m vc (by omega) (fun x hx => by
    rcases hv with ⟨e, -⟩ | ⟨_, _, _, _, _, e, -⟩
    · rw [Value.slice.injEq] at e; rw [e.1] at hx; cases hx
    · rw [Value.slice.injEq] at e; rw [e.1] at hx; cases hx; rfl)
  have hst := hv.take m hml
  rw [Nat.mul_one, bcells_take] at hst
  have hC := Lib.hid (clone_calls hst (by simp; omega))
  have H := Lib.hid (And.intro hv (And.intro hfs (And.intro hfo (And.intro hlt hfr))))
  clear hv hfs hfo hst hfr hm
  go_enter Tryz.func51, Tryz.ntmps51
  go_wp2_with fail
  refine hC.out.mono ?_
  rintro e1 w1 ⟨u, rfl, hu, T1, ho⟩
  have d0 : w1.cell? ⟨b, o, none⟩ = some (.slice va xs.length vc) := (T1.cell (p := ⟨b, o, none⟩) (fun e => e) H.out.2.2.2.1).trans c0
  have df : w1.frozen? ⟨b, o, none⟩ = false := by rw [T1.frozen (p := ⟨b, o, none⟩) (fun e => e) H.out.2.2.2.1]; exact cf
  have hfr := H.out.2.2.2.2 w1
  have HF := Lib.hid (And.intro hu (And.intro T1 ho))
  clear hu T1 ho
  go_wp2_with fail
  go_ret
  exact ⟨w1, .slice a' n' c', u, rfl, rfl, HF.out.1, HF.out.2.2, HF.out.2.1, by rw [← bcells_drop]; exact H.out.2.1 _ (H.out.1.turn HF.out.2.1 (fun _ _ e => e)), H.out.2.2.1⟩
end
end Go.Str
