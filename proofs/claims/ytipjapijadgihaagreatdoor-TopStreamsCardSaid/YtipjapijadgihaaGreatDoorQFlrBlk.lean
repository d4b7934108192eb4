/-
  Blocks: name, named, summed, pieces, Chain, chainAt, data.
-/
import Derived.Lib.BufferWrite
import Derived.Lib.SliceRun
import Derived.Test.YtipjapijadgihaaGreatDoorQFlrNum
set_option linter.unusedVariables false

namespace Go.Flr
open Go.Own Go.RowKit Go.Proofs

theorem nameOf_length (B : Bytes) (hB : B.length = 128) : (nameOf B).length = min (byteAt B 10) 24 := by
  unfold nameOf; simp; omega

theorem nameOf_get (B : Bytes) (hB : B.length = 128) (j : Nat) (hj : j < (nameOf B).length) : ((nameOf B)[j]).toNat = byteAt B (11 + j) := by
  have hl := nameOf_length B hB
  have e : (nameOf B)[j]? = B[11 + j]? := by
    unfold nameOf
    rw [List.getElem?_take, if_pos (by omega), List.getElem?_drop]
  rw [List.getElem?_eq_getElem hj, List.getElem?_eq_getElem (by omega)] at e
  rw [byteAt_eq (by omega), Option.some.inj e]

section
variable {w : World}

set_option maxRecDepth 10000 in
set_option maxHeartbeats 1000000 in
theorem name_calls {b o : Nat} {B : Bytes} (h : w.rangeAt b o (bcells B)) (hB : B.length = 128) :
    Calls Tryz.prog 131 #[.pointer (some ⟨b, o, none⟩)] w fun e w' => e = .returned (.string (bs (nameOf B))) ∧ ∃ n, w' = w.drewN n := by
  have hc := cell_byte h 10 (by omega)
  have hx := byteAt_lt B 10
  obtain ⟨n, hn⟩ : ∃ n, min (byteAt B 10) 24 = n := ⟨_, rfl⟩
  have hl : (nameOf B).length = n := by rw [nameOf_length B hB, hn]
  have hm : min (byteAt B 10 : Int) 24 = (n : Int) := by omega
  have hcv : ∀ W : World, (∀ p : Addr, W.cell? p = w.cell? p) → (convert 30 9 (.slice (some ⟨b, o + 11, none⟩) n 117)).run Tryz.prog W = .ok (.string (bs (nameOf B))) W := fun W hW => by
    have := run_convert_bytes_back (P := Tryz.prog) W 30 9 5 ⟨b, o + 11, none⟩ 117 (nameOf B) Tryz.underlying30 Tryz.underlying5 Tryz.underlying9 (fun j hj => by
      rw [hW, Addr.add_lit]
      have hj2 := hj
      rw [hl] at hj2
      have := cell_byte h (11 + j) (by omega)
      rw [← Nat.add_assoc] at this
      rw [this]
      rw [nameOf_get B hB j hj])
    rw [hl] at this
    exact this
  have hcv0 := fun k => hcv (w.drewN k) (fun p => by simp)
  have hn2 : n ≤ 24 := by omega
  have hw : IntKind.i64.wrap (11 + (n : Int)) = 11 + (n : Int) := IntWalk.i64_in _ (by omega)
  have b1 : 11 + (n : Int) ≤ 128 := by omega
  have b2 : (11 : Int) ≤ 11 + (n : Int) := by omega
  have e1 : (11 + (n : Int)).toNat = 11 + n := by omega
  have e2 : 11 + n - 11 = n := by omega
  generalize byteAt B 10 = x at hc hx hm hn
  clear h hB hl hcv hn
  go_enter Tryz.func131, Tryz.ntmps131
  go_upto_region 1 with fail
  go_quiet (fail)
  go_wp2_with fail
  go_ret
  exact ⟨rfl, nq, rfl⟩

theorem pieces_calls (n : Nat) (hn : n ≤ 100000) : Calls Tryz.prog 57 #[.int .i64 n] w fun e w' => e = .returned (.int .i64 (piecesN n : Nat)) ∧ w' = w := by
  go_enter Tryz.func57, Tryz.ntmps57
  go_wp2_with fail
  go_ret
  exact ⟨congrArg (fun z => Ending.returned (Value.int .i64 z)) (by unfold piecesN; omega), rfl⟩

theorem hashTo_snoc (s : Bytes) (k : Nat) (hk : k < s.length) : hashN (s.take (k + 1)) = (hashN (s.take k) * 31 + (s[k]).toNat) % 997 := by
  unfold hashN
  rw [List.take_succ_eq_append_getElem hk, List.foldl_append]
  rfl
theorem hashN_lt (s : Bytes) : hashN s < 997 := by
  unfold hashN
  have : ∀ (l : Bytes) (a : Nat), a < 997 → l.foldl (fun h x => (h * 31 + x.toNat) % 997) a < 997 := by
    intro l
    induction l with
    | nil => intro a ha; exact ha
    | cons x r ih => intro a _; exact ih _ (Nat.mod_lt _ (by decide))
  exact this s 0 (by decide)

set_option maxRecDepth 10000 in
set_option maxHeartbeats 1000000 in
theorem chain_calls (s : Bytes) (hs : s.length ≤ 1000) : Calls Tryz.prog 166 #[.string (bs s)] w fun e w' => e = .returned (.int .i64 (chainN s : Nat)) ∧ w' = w := by
  have hz := bs_size s
  go_enter Tryz.func166, Tryz.ntmps166
  go_wp2_with fail
  go_loopg [3, 7] (s.length) (fun gk hv iv wr => ∃ i : Nat, gk + i = s.length ∧ iv = .int .i64 i ∧ hv = .int .i64 (hashN (s.take i) : Nat) ∧ wr = w)
  case atStart => exact ⟨0, rfl, rfl, rfl, rfl⟩
  case round =>
    obtain ⟨i, hgk, rfl, rfl, rfl⟩ := hrel
    by_cases hi : i < s.length
    · have hsn := Lib.hid (hashTo_snoc s i hi)
      have hlt := hashN_lt (s.take i)
      generalize hashN (s.take i) = h at hsn hlt
      have hx := (s[i]).toNat_lt
      have hk := Lib.hid hgk
      clear hgk
      go_wp2_with fail
      have ex : (bs s)[i].toNat = (s[i]).toNat := rfl
      have e : (wrap64 ((h : Int) * 31 + wrap64 ((bs s)[i].toNat : Int))).tmod 997 = (((h * 31 + (s[i]).toNat) % 997 : Nat) : Int) := by
        rw [ex, IntWalk.wrap64_in ((s[i]).toNat : Int) (by omega), IntWalk.wrap64_in _ (by omega), Int.tmod_eq_emod_of_nonneg (by omega)]
        omega
      have hgk := hk.out
      go_roundg (gk - 1)
      case rel => exact ⟨i + 1, by omega, by rfl, by rw [hsn.out, e], rfl⟩
      case measure => omega
    · have hi2 : s.take i = s := List.take_of_length_le (by omega)
      have hlt := hashN_lt s
      have hc : chainN s = hashN s % 16 := rfl
      rw [hi2]
      generalize hashN s = h at hlt hc
      have HC := Lib.hid hc
      clear hi2 hc
      go_wp2_with fail
      go_ret
      exact ⟨congrArg (fun z => Ending.returned (Value.int .i64 z)) (by rw [HC.out]; omega), rfl⟩

theorem chainAt_calls (s : Bytes) (hs : s.length ≤ 1000) : Calls Tryz.prog 130 #[.string (bs s)] w fun e w' => e = .returned (.int .i64 (35 + 2 * chainN s : Nat)) ∧ w' = w := by
  have HC := Lib.hid (chain_calls (w := w) s hs)
  have hlt := chainN_lt s
  generalize chainN s = h at HC hlt
  go_enter Tryz.func130, Tryz.ntmps130
  go_wp2_with fail
  refine HC.out.mono ?_
  rintro e1 w1 ⟨rfl, rfl⟩
  go_wp2_with fail
  go_ret
  exact ⟨congrArg (fun z => Ending.returned (Value.int .i64 z)) (by omega), rfl⟩

theorem setCells_eq_setRow {P : Program} {b o : Nat} {cur : Array Value} {t : TypeId} {vs : List Value} (h : w.heap[b]? = some (.cells cur t (0, 0))) (hf : o + vs.length ≤ cur.size) (h1 : ∀ v ∈ vs, v.oneCell' = true) :
    w.setCells b o vs = w.setRow b (cur.toList.take o ++ vs ++ cur.toList.drop (o + vs.length)).toArray := by
  have e1 := run_storeCells_at P b o t vs 0 cur w h (by simpa using hf) h1
  have e2 := run_storeCells_cells (P := P) b o vs 0 w (fun j hj => by rw [Nat.add_zero, cell_at h (Array.getElem?_eq_getElem (by omega))]; rfl) (fun j hj => frozen_at h) h1
  rw [e1] at e2
  simp only [Nat.add_zero] at e2
  injection e2 with _ e
  exact e.symm

theorem _root_.Go.Own.Turn.setRow {S : Nat → Prop} {a b : World} (h : Turn S a b) {g : Nat} (hg : g < a.heap.size → S g) (c : Array Value) : Turn S a (b.setRow g c) :=
  ⟨h.os, h.tape, h.output, by simp [World.setRow]; exact h.size, fun k hk hs => by
    rw [setRow_other b g k c (fun e => hs (e ▸ hg (e ▸ hk)))]; exact h.block k hk hs⟩

theorem Box.setRow {b : Nat} {B B' : Bytes} (h : Box w b B) : Box (w.setRow b (bcells B').toArray) b B' := setRow_heap w b _ _ _ _ h

set_option maxRecDepth 10000 in
/-- clear(s): s a window of a block of bytes. -/
theorem wpList_clear_box {ops : Array Oper} {rest : List Oper} {o : Oper} {a : Act} {Q : Exit → Act → World → Prop} (hgd : o.guard = none) (s : Operand)
    (ho : o.op = .call { callee := .builtin .clear, args := #[s], argTypes := #[30] }) {b i n c : Nat} {B : Bytes} (hs : a.eval s = .slice (some ⟨b, i, none⟩) n c) (h : Box w b B) (hn : 0 < n) (hi : i + n ≤ B.length)
    (hk : ∀ w1, Box w1 b (B.take i ++ List.replicate n 0 ++ B.drop (i + n)) → Turn (fun k => k = b) w w1 → w1.heap.size = w.heap.size → wpList Tryz.prog ops Q rest (a.put o.dst (.tuple #[])) w1) : wpList Tryz.prog ops Q (o :: rest) a w := by
  refine wpList_plain hgd fun K hK => ?_
  have hr := Lib.run_clear_slice (P := Tryz.prog) w 30 5 o.type (.int .u8 0) Tryz.underlying30 (zero_of_info (P := Tryz.prog) (n := 1) (by kernel_rfl)).1 rfl rfl b i n c hn (fun j hj => by
    have := h.there (i + j) (by omega)
    rw [Nat.zero_add] at this
    exact this.1) (fun j hj => h.frozen _)
  have hw : w.setCells b i (List.replicate n (.int .u8 0)) = w.setRow b (bcells (B.take i ++ List.replicate n 0 ++ B.drop (i + n))).toArray := by
    rw [setCells_eq_setRow (P := Tryz.prog) h (by simpa using hi) (fun v hv => by rw [List.eq_of_mem_replicate hv]; rfl)]
    have e : (List.replicate n (Value.int .u8 0)) = bcells (List.replicate n 0) := by unfold bcells; rw [List.map_replicate]; rfl
    rw [bcells_append, bcells_append, ← bcells_take, ← bcells_drop, e, bcells_length, List.length_replicate]
  unfold Oper.wp execOp
  simp only [ho, resolve, invoke, builtin, Sem.run_bind, Sem.run_pure, Result.andThen_ok, List.map_toArray, List.map_cons, List.map_nil, hs, hr]
  refine hK _ _ ?_
  rw [hw]
  exact hk _ h.setRow ((Turn.refl (fun k => k = b) w).setRow (fun _ => rfl) _) (by simp [World.setRow])

/-- copy(d, s): a text into a block of bytes. -/
theorem wpList_copy_box {ops : Array Oper} {rest : List Oper} {o : Oper} {a : Act} {Q : Exit → Act → World → Prop} (hgd : o.guard = none) (d s : Operand)
    (ho : o.op = .call { callee := .builtin .copy, args := #[d, s], argTypes := #[30, 9] }) {b i n c : Nat} {B t : Bytes} (hd : a.eval d = .slice (some ⟨b, i, none⟩) n c) (hs : a.eval s = .string (bs t)) (h : Box w b B) (hn : t.length ≤ n) (hi : i + t.length ≤ B.length)
    (hk : ∀ w1, Box w1 b (B.take i ++ t ++ B.drop (i + t.length)) → Turn (fun k => k = b) w w1 → w1.heap.size = w.heap.size → wpList Tryz.prog ops Q rest (a.put o.dst (.int .i64 (t.length : Nat))) w1) : wpList Tryz.prog ops Q (o :: rest) a w := by
  refine wpList_plain hgd fun K hK => ?_
  have hr := Lib.run_copy_row_string (P := Tryz.prog) w 30 9 o.type 5 b i n c (bs t) _ _ Tryz.underlying30 (by kernel_rfl) h (by rw [bs_size]; exact hn) (by rw [bs_size]; simpa using hi)
  unfold Oper.wp execOp
  simp only [ho, resolve, invoke, builtin, Sem.run_bind, Sem.run_pure, Result.andThen_ok, List.map_toArray, List.map_cons, List.map_nil, hs, hd, hr]
  have e : ((bcells B).toArray.toList.take i ++ Lib.byteCells (bs t).data.toList ++ (bcells B).toArray.toList.drop (i + (bs t).size)).toArray = (bcells (B.take i ++ t ++ B.drop (i + t.length))).toArray := by
    rw [bs_size, bcells_append, bcells_append, ← bcells_take, ← bcells_drop]
    rfl
  rw [bs_size]
  refine hK _ _ ?_
  rw [bs_size] at e
  rw [e]
  exact hk _ h.setRow ((Turn.refl (fun k => k = b) w).setRow (fun _ => rfl) _) (by simp [World.setRow])

set_option maxRecDepth 10000 in
/-- A name put into a block. -/
theorem named_calls {b : Nat} {B s : Bytes} (h : Box w b B) (hB : B.length = 128) (hs : s.length ≤ 24) :
    Calls Tryz.prog 60 #[pt b, .string (bs s)] w fun e w' => e = .returned (.tuple #[]) ∧ Box w' b (setName B s) ∧ Turn (fun k => k = b) w w' ∧ w'.heap.size = w.heap.size := by
  have H := Lib.hid h
  have hz := bs_size s
  obtain ⟨n, hn⟩ : ∃ n, s.length = n := ⟨_, rfl⟩
  rw [hn] at hs hz
  have HN := Lib.hid (And.intro hn hB)
  clear h hn
  go_enter Tryz.func60, Tryz.ntmps60
  go_wp2_with (first
    | (refine wpList_clear_box rfl _ rfl rfl H.out (by omega) (by rw [HN.out.2]; omega) ?_
       intro w1 h1 t1 z1
       have f1 := h1.frozen 10
       have c1 := (h1.there 10 (by simp; have := HN.out.2; omega)).1
       rw [Nat.zero_add] at c1
       obtain ⟨u1, c1⟩ := Option.isSome_iff_exists.1 c1
       have H1 := Lib.hid (And.intro h1 (And.intro t1 z1))
       clear h1 t1 z1)
    | (refine wpList_copy_box rfl _ _ rfl rfl rfl (H1.out.1.set 10 n (by omega)) (by rw [HN.out.1]; omega) (by have := HN.out.1; have := HN.out.2; simp; omega) ?_
       intro w2 h2 t2 z2
       have H2 := Lib.hid (And.intro h2 (And.intro t2 z2))
       clear h2 t2 z2))
  go_end0
  refine ⟨rfl, ?_, ?_, ?_⟩
  · have h2 := H2.out.1
    have e : List.take 11 ((B.take 10 ++ List.replicate 25 0 ++ B.drop (10 + 25)).set 10 (UInt8.ofNat n)) ++ s ++ List.drop (11 + s.length) ((B.take 10 ++ List.replicate 25 0 ++ B.drop (10 + 25)).set 10 (UInt8.ofNat n)) = setName B s := by
      have hn := HN.out.1
      have hB := HN.out.2
      have e1 : (B.take 10 ++ List.replicate 25 0 ++ B.drop (10 + 25)).set 10 (UInt8.ofNat n) = B.take 10 ++ (UInt8.ofNat n :: (List.replicate 24 0 ++ B.drop 35)) := by
        rw [List.append_assoc, List.set_append_right _ _ (by simp; omega)]
        have : 10 - (B.take 10).length = 0 := by simp; omega
        rw [this]; rfl
      have e2 : (B.take 10).length = 10 := by simp; omega
      rw [e1]
      unfold setName
      rw [List.take_append, List.take_of_length_le (by omega : (B.take 10).length ≤ 11), List.drop_append, List.drop_of_length_le (by omega : (B.take 10).length ≤ 11 + s.length), e2]
      have e3 : 11 + s.length - 10 = s.length + 1 := by omega
      rw [e3, List.drop_succ_cons, List.drop_append, List.drop_replicate, List.length_replicate, hn]
      have e4 : n - 24 = 0 := by omega
      rw [e4]
      simp
    rw [e] at h2
    exact h2
  · exact (H1.out.2.1.setCell (fun _ => rfl) _).trans (H2.out.2.1)
  · rw [H2.out.2.2]; simp; exact H1.out.2.2
end
end Go.Flr
