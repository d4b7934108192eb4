/-
  locked at no block, code of no error; a block's literal in a walk.
-/
import Derived.Test.YtipjapijadgihaaGreatDoorQFlrCollect
set_option linter.unusedVariables false

namespace Go.Flr
open Go.Own Go.RowKit Go.Proofs

section
variable {w0 w w' w1 : World} {d g : Nat} {D : List Bytes} {L : List (Nat × Bytes)} {lv : Value}

theorem locked0 (w : World) (d : Nat) : Calls Tryz.prog 56 #[pt d, .int .i64 0] w fun e w' => e = .returned .nilIface ∧ Turn (fun _ => False) w w' := by
  have T : Turn (fun _ => False) w ((w.alloc (.cells #[pt d] 24)).alloc (.cells #[.int .i64 0] 3)) := ((Turn.refl _ w).alloc _).alloc _
  have c1 := cell_new_l (w.alloc (.cells #[pt d] 24)) (.int .i64 0) 3
  simp only [World.size_alloc] at c1
  obtain ⟨c1, -⟩ := c1
  have HT := Lib.hid T
  clear T
  go_enter Tryz.func56, Tryz.ntmps56
  go_wp2_with fail
  go_ret
  exact ⟨rfl, HT.out⟩

set_option maxRecDepth 10000 in
theorem is_nil (v : Value) (w : World) {t : TypeId} {u : Value} (hv : v = .iface t u) : Calls Tryz.prog 68 #[.nilIface, v] w fun e w' => e = .returned (.bool false) ∧ w' = w := by
  subst hv
  have q : (binOp .eql 66 .nilIface (.iface t u)).run Tryz.prog w = .ok (.bool false) w := by
    have h : ∀ d : Nat, (Op.equalIn (d + 1) 66 .nilIface (.iface t u)).run Tryz.prog w = .ok false w := fun d => by simp [Op.equalIn, run_underlying Tryz.underlying66]
    have h2 : (Op.equalIn Op.maxDepth 66 .nilIface (.iface t u)).run Tryz.prog w = .ok false w := h 9999
    simp only [binOp]
    simp [Op.equal, h2]
  go_enter Tryz.func68, Tryz.ntmps68
  go_wp2_with fail
  go_ret
  exact ⟨rfl, rfl⟩

set_option maxRecDepth 10000 in
theorem code_nil (w : World) : Calls Tryz.prog 27 #[.nilIface] w fun e w' => e = .returned (.int .i64 0) ∧ Turn (fun _ => False) w w' := by
  go_enter Tryz.func27, Tryz.ntmps27
  go_wp2_with fail
  have T : Turn (fun _ => False) w (w.alloc (.cells #[.int .i64 1, .int .i64 220, .int .i64 2, .int .i64 4, .int .i64 221, .int .i64 6, .int .i64 241, .int .i64 224, .int .i64 222, .int .i64 223] 25)) := (Turn.refl _ w).alloc _
  have hc : ∀ i, i < 10 → ∃ n : Int, (w.alloc (.cells #[.int .i64 1, .int .i64 220, .int .i64 2, .int .i64 4, .int .i64 221, .int .i64 6, .int .i64 241, .int .i64 224, .int .i64 222, .int .i64 223] 25)).cell? ⟨w.heap.size, i, none⟩ = some (.int .i64 n) := fun i hi => by
    have h := heap_alloc_new w (.cells #[.int .i64 1, .int .i64 220, .int .i64 2, .int .i64 4, .int .i64 221, .int .i64 6, .int .i64 241, .int .i64 224, .int .i64 222, .int .i64 223] 25)
    have : i = 0 ∨ i = 1 ∨ i = 2 ∨ i = 3 ∨ i = 4 ∨ i = 5 ∨ i = 6 ∨ i = 7 ∨ i = 8 ∨ i = 9 := by omega
    rcases this with rfl | rfl | rfl | rfl | rfl | rfl | rfl | rfl | rfl | rfl <;> exact ⟨_, cell_at h rfl⟩
  generalize w.heap.size = q at hc ⊢
  obtain ⟨W, hW⟩ : ∃ W, w.alloc (.cells #[.int .i64 1, .int .i64 220, .int .i64 2, .int .i64 4, .int .i64 221, .int .i64 6, .int .i64 241, .int .i64 224, .int .i64 222, .int .i64 223] 25) = W := ⟨_, rfl⟩
  rw [hW] at T hc ⊢
  have HT := Lib.hid (And.intro T hc)
  clear T hc hW
  go_loopg [7] (10) (fun gk iv wr => ∃ i : Nat, gk + i = 10 ∧ iv = .int .i64 i ∧ wr = W)
  case atStart => exact ⟨0, rfl, rfl, rfl⟩
  case round =>
    obtain ⟨i, hgk, rfl, rfl⟩ := hrel
    by_cases hi : i < 10
    · obtain ⟨n, hn⟩ := HT.out.2 i hi
      have HN := Lib.hid (is_nil (.iface 70 (.int .i64 n)) wr rfl)
      have HG := Lib.hid hgk
      clear hgk
      go_wp2_with fail
      refine HN.out.mono ?_
      rintro e1 w1 ⟨rfl, rfl⟩
      clear hn
      go_wp2_with fail
      have hgk := HG.out
      go_roundg (gk - 1)
      case rel => exact ⟨i + 1, by omega, by rfl, rfl⟩
      case measure => omega
    · go_wp2_with fail
      go_ret
      exact ⟨rfl, HT.out.1⟩

/-- A block's literal, a new block, in a walk. -/
theorem wpList_build_block {ops : Array Oper} {rest : List Oper} {o : Oper} {a : Act} {Q : Exit → Act → World → Prop} (hgd : o.guard = none) (k : Nat) (hk : k < 4) (ho : o.op = .build 63 #[(0, .const (.int .u8 (k : Nat)))])
    (h : wpList Tryz.prog ops Q rest (a.put o.dst (agg (zeroB k))) w) : wpList Tryz.prog ops Q (o :: rest) a w := by
  refine wpList_plain hgd fun K hK => ?_
  unfold Oper.wp execOp
  have e : Act.eval a (.const (.int .u8 (k : Nat))) = .int .u8 (k : Nat) := rfl
  simp only [ho, List.map_toArray, List.map_cons, List.map_nil, e, Sem.run_bind, Sem.run_pure, Result.andThen_ok, build_block w k hk]
  exact hK _ _ h
theorem wpList_alloc_block {ops : Array Oper} {rest : List Oper} {o : Oper} {a : Act} {Q : Exit → Act → World → Prop} (hgd : o.guard = none) (ho : o.op = .alloc 63)
    (h : wpList Tryz.prog ops Q rest (a.put o.dst (pt w.heap.size)) (w.alloc (.cells (bcells zeros).toArray 63))) : wpList Tryz.prog ops Q (o :: rest) a w := by
  refine wpList_plain hgd fun K hK => ?_
  unfold Oper.wp
  rw [exec_alloc_block ho]
  exact hK _ _ h
end
end Go.Flr

/-
  What a put writes.
-/
namespace Go.Flr
open Go.Own Go.RowKit Go.Proofs

def pieceL (data : Bytes) (i : Nat) : Bytes := (data.drop (i * 123)).take 123
theorem pieceL_length (data : Bytes) (i : Nat) : (pieceL data i).length = min 123 (data.length - i * 123) := by simp [pieceL]
def dataBlk (pc : Bytes) : Bytes := ((zeroB 3).set 4 (UInt8.ofNat pc.length)).take 5 ++ pc ++ ((zeroB 3).set 4 (UInt8.ofNat pc.length)).drop (5 + pc.length)
theorem zeroB_length (k : Nat) : (zeroB k).length = 128 := by simp [zeroB]
theorem dataBlk_length (pc : Bytes) (h : pc.length ≤ 123) : (dataBlk pc).length = 128 := by
  unfold dataBlk
  simp [zeroB_length]
  omega

def putF (F0 : Bytes) (fr : List Nat) : Nat → Bytes
  | 0 => F0
  | i + 1 => putAt (putF F0 fr i) (37 + 2 * i) (fr.getD i 0)
theorem putF_length (F0 : Bytes) (fr : List Nat) : ∀ i, (putF F0 fr i).length = F0.length
  | 0 => rfl
  | i + 1 => by unfold putF; rw [putAt_length, putF_length F0 fr i]
def putDk (D : List Bytes) (data : Bytes) (fr : List Nat) : Nat → List Bytes
  | 0 => D
  | i + 1 => (putDk D data fr i).set (fr.getD i 0) (summedB (dataBlk (pieceL data i)))
theorem putDk_length (D : List Bytes) (data : Bytes) (fr : List Nat) : ∀ i, (putDk D data fr i).length = D.length
  | 0 => rfl
  | i + 1 => by unfold putDk; rw [List.length_set, putDk_length D data fr i]
def putLg (L : List (Nat × Bytes)) (data : Bytes) (fr : List Nat) : Nat → List (Nat × Bytes)
  | 0 => L
  | i + 1 => putLg L data fr i ++ [(fr.getD i 0, summedB (dataBlk (pieceL data i)))]
theorem putLg_length (L : List (Nat × Bytes)) (data : Bytes) (fr : List Nat) : ∀ i, (putLg L data fr i).length = L.length + i
  | 0 => rfl
  | i + 1 => by unfold putLg; rw [List.length_append, putLg_length L data fr i]; rfl

theorem freeTo_lt (us : List Bool) : ∀ i x, x ∈ freeTo us i → x < i
  | 0, x, h => by simp [freeTo] at h
  | i + 1, x, h => by
    unfold freeTo at h
    split at h
    · rcases List.mem_append.1 h with e | e
      · have := freeTo_lt us i x e; omega
      · simp at e; omega
    · have := freeTo_lt us i x h; omega

/-- A file's block ahead of its numbers. -/
def fileB0 (dir next : Nat) (s : Bytes) (size : Nat) : Bytes := putAt (setName (if next = 0 then putAt (zeroB 2) 4 dir else putAt (putAt (zeroB 2) 4 dir) 6 next) s) 35 size
theorem fileB0_length (dir next : Nat) (s : Bytes) (size : Nat) (hs : s.length ≤ 24) : (fileB0 dir next s size).length = 128 := by
  unfold fileB0
  rw [putAt_length, setName_length _ _ (by split <;> simp [zeroB_length]) hs]
  split <;> simp [zeroB_length]

/-- The disk, the log behind a put of new bytes. -/
def putD (D : List Bytes) (F0 data : Bytes) (fr : List Nat) (n : Nat) : List Bytes := (putDk D data fr n).set (fr.getD n 0) (summedB (putF F0 fr n))
def pointD (D : List Bytes) (pb pa k : Nat) : List Bytes := D.set pb (summedB (putAt (atD D pb) pa k))
end Go.Flr

/-
  What lies in memory while a put goes on; copy of a slice into a block.
-/
namespace Go.Flr
open Go.Own Go.RowKit Go.Proofs

/-- A slice of bytes that is read only: its block may be shared with a string. -/
def RdAt (w : World) (v : Value) (xs : List Value) : Prop :=
  (v = .slice none 0 0 ∧ xs = []) ∨
  ∃ g off n cap cur fr, v = .slice (some ⟨g, off, none⟩) n cap ∧ w.heap[g]? = some (.cells cur 5 fr) ∧ xs.length = n ∧ n ≤ cap ∧ cap ≤ maxLen ∧ (cur.toList.drop off).take n = xs
theorem RdAt.form {w : World} {v : Value} {xs : List Value} (h : RdAt w v xs) : ∃ a cap, v = .slice a xs.length cap ∧ xs.length ≤ cap ∧ cap ≤ maxLen := by
  rcases h with ⟨rfl, rfl⟩ | ⟨g, off, n, cap, cur, fr, rfl, _, hl, hn, hm, _⟩
  · exact ⟨none, 0, rfl, Nat.le_refl _, Nat.zero_le _⟩
  · subst hl; exact ⟨_, cap, rfl, hn, hm⟩
theorem RdAt.lt {w : World} {v : Value} {xs : List Value} (h : RdAt w v xs) : ∀ g, v.ownBlock = some g → g < w.heap.size := by
  rcases h with ⟨rfl, _⟩ | ⟨g, off, n, cap, cur, fr, rfl, hg, _⟩
  · intro g hg; simp [Value.ownBlock] at hg
  · intro g' h'; simp [Value.ownBlock] at h'; subst h'; exact heap_lt hg
theorem RdAt.turn {w w' : World} {S : Nat → Prop} {v : Value} {xs : List Value} (h : RdAt w v xs) (ht : Turn S w w') (hs : ∀ g, v.ownBlock = some g → ¬ S g) : RdAt w' v xs := by
  have hlt := h.lt
  rcases h with h | ⟨g, off, n, cap, cur, fr, rfl, hg, r⟩
  · exact .inl h
  · exact .inr ⟨g, off, n, cap, cur, fr, rfl, (ht.block g (hlt g rfl) (hs g rfl)).trans hg, r⟩
theorem RdAt.addr {w : World} {a : Option Addr} {n cap : Nat} {xs : List Value} (h : RdAt w (.slice a n cap) xs) (hn : 0 < n) : ∃ g off, a = some ⟨g, off, none⟩ := by
  rcases h with ⟨h, _⟩ | ⟨g, off, _, _, _, _, hv, _⟩
  · cases h; omega
  · cases hv; exact ⟨_, _, rfl⟩
theorem RdAt.cells {w : World} {g off n cap : Nat} {xs : List Value} (h : RdAt w (.slice (some ⟨g, off, none⟩) n cap) xs) : ∀ j u, xs[j]? = some u → w.cell? ⟨g, off + j, none⟩ = some u := by
  rcases h with ⟨h, _⟩ | ⟨g', off', n', cap', cur, fr, hv, hg, hl, hn, hm, hx⟩
  · cases h
  · cases hv
    intro j u hu
    refine cell_at hg ?_
    rw [← hx, List.getElem?_take] at hu
    split at hu
    · simpa using hu
    · cases hu
theorem _root_.Go.Own.SliceAt.rd {w : World} {v : Value} {xs : List Value} (h : SliceAt w 5 1 v xs) : RdAt w v xs := by
  rcases h with h | ⟨g, off, n, cap, cur, rfl, hg, hl, hn, hm, hs, hx⟩
  · exact .inl h
  · exact .inr ⟨g, off, n, cap, cur, _, rfl, hg, by omega, hn, hm, by rw [Nat.mul_one] at hx; exact hx⟩

structure PM (w0 w : World) (d g : Nat) (lv : Value) (tb fb : Nat) (tc : Array Value) (fv : Value) (fr : List Nat) (cv : Value) (cl : List Value) (dv : Value) (data : Bytes) (D : List Bytes) (L : List (Nat × Bytes)) (lv' : Value) (F : Bytes) (W : World) : Prop where
  di : DI w0 d g D L lv' W
  base : w0.heap.size ≤ w.heap.size
  st : DStep d g w lv W lv'
  tg : W.heap[tb]? = some (.cells tc 139 (0, 0))
  fs : SliceAt W 3 1 fv (ncells fr)
  cs : SliceAt W 30 1 cv cl
  bx : Box W fb F
  ds : RdAt W dv (bcells data)
  ntb : ¬ Dk d g lv' tb ∧ tb ≠ fb
  nfb : ¬ Dk d g lv' fb ∧ w.heap.size ≤ fb
  nfs : ∀ k, fv.ownBlock = some k → ¬ Dk d g lv' k ∧ k ≠ fb
  ncs : ∀ k, cv.ownBlock = some k → ¬ Dk d g lv' k ∧ k ≠ fb
  nds : ∀ k, dv.ownBlock = some k → ¬ Dk d g lv' k ∧ k ≠ fb

section
variable {w0 w W W1 : World} {d g : Nat} {lv : Value} {tb fb : Nat} {tc : Array Value} {fv : Value} {fr : List Nat} {cv : Value} {cl : List Value} {dv : Value} {data : Bytes} {D D' : List Bytes} {L L' : List (Nat × Bytes)} {lv' lv2 : Value} {F F' : Bytes}

theorem PM.new (h : PM w0 w d g lv tb fb tc fv fr cv cl dv data D L lv' F W) (ht : Turn (fun _ => False) W W1) : PM w0 w d g lv tb fb tc fv fr cv cl dv data D L lv' F W1 :=
  ⟨h.di.new ht, h.base, h.st.trans (DStep.new ht), (ht.block tb (heap_lt h.tg) (fun e => e)).trans h.tg, h.fs.turn ht (fun _ _ e => e), h.cs.turn ht (fun _ _ e => e), h.bx.turn ht (fun e => e), h.ds.turn ht (fun _ _ e => e), h.ntb, h.nfb, h.nfs, h.ncs, h.nds⟩

theorem PM.box (h : PM w0 w d g lv tb fb tc fv fr cv cl dv data D L lv' F W) (ht : Turn (fun k => k = fb) W W1) (hb : Box W1 fb F') : PM w0 w d g lv tb fb tc fv fr cv cl dv data D L lv' F' W1 :=
  ⟨h.di.keep ht (fun e => h.nfb.1 (.inl e.symm)) (fun e => h.nfb.1 (.inr (.inl e.symm))) (fun k hk e => h.nfb.1 (.inr (.inr (e ▸ hk)))) (fun k e => by
      have := h.nfb.2; have := h.base; omega), h.base,
    ⟨⟨ht.os.trans h.st.turn.os, ht.tape.trans h.st.turn.tape, ht.output.trans h.st.turn.output, Nat.le_trans h.st.turn.size ht.size, fun i hi hs => by
        have := h.nfb.2; have := h.st.turn.size
        rw [ht.block i (by omega) (by omega)]; exact h.st.turn.block i hi hs⟩, h.st.own⟩,
    (ht.block tb (heap_lt h.tg) h.ntb.2).trans h.tg, h.fs.turn ht (fun k hk => (h.nfs k hk).2), h.cs.turn ht (fun k hk => (h.ncs k hk).2), hb, h.ds.turn ht (fun k hk => (h.nds k hk).2), h.ntb, h.nfb, h.nfs, h.ncs, h.nds⟩

theorem Dk.not_new {k : Nat} (hn : ¬ Dk d g lv' k) (hlt : k < W.heap.size) (hs : DStep d g W lv' W1 lv2) : ¬ Dk d g lv2 k := fun e => by
  rcases hs.own k e with q | q
  · exact hn q
  · omega

theorem PM.step (h : PM w0 w d g lv tb fb tc fv fr cv cl dv data D L lv' F W) (hd : DI w0 d g D' L' lv2 W1) (hs : DStep d g W lv' W1 lv2) : PM w0 w d g lv tb fb tc fv fr cv cl dv data D' L' lv2 F W1 :=
  ⟨hd, h.base, h.st.trans hs, (hs.turn.block tb (heap_lt h.tg) h.ntb.1).trans h.tg, h.fs.turn hs.turn (fun k hk => (h.nfs k hk).1), h.cs.turn hs.turn (fun k hk => (h.ncs k hk).1), h.bx.turn hs.turn h.nfb.1, h.ds.turn hs.turn (fun k hk => (h.nds k hk).1),
    ⟨Dk.not_new h.ntb.1 (heap_lt h.tg) hs, h.ntb.2⟩, ⟨Dk.not_new h.nfb.1 h.bx.lt hs, h.nfb.2⟩, fun k hk => ⟨Dk.not_new (h.nfs k hk).1 (h.fs.lt k hk) hs, (h.nfs k hk).2⟩, fun k hk => ⟨Dk.not_new (h.ncs k hk).1 (h.cs.lt k hk) hs, (h.ncs k hk).2⟩, fun k hk => ⟨Dk.not_new (h.nds k hk).1 (h.ds.lt k hk) hs, (h.nds k hk).2⟩⟩

theorem PM.chunks (h : PM w0 w d g lv tb fb tc fv fr cv cl dv data D L lv' F W) {cv2 : Value} {cl2 : List Value} (hc : Own1 W W1 30 cv2 cl2) : PM w0 w d g lv tb fb tc fv fr cv2 cl2 dv data D L lv' F W1 := by
  have h1 := h.new hc.turn
  exact ⟨h1.di, h1.base, h1.st, h1.tg, h1.fs, hc.at_, h1.bx, h1.ds, h1.ntb, h1.nfb, h1.nfs, fun k hk => by
    have := hc.own k hk
    have hb := h.bx.lt
    refine ⟨fun e => ?_, by omega⟩
    rcases e with e | e | e
    · have := h.di.dlt; omega
    · have := h.di.glt; omega
    · have := h.di.lg.lt k e; omega, h1.nds⟩

/-- copy(d, s): bytes of a slice into a block. -/
theorem wpList_copy_bytes {ops : Array Oper} {rest : List Oper} {o : Oper} {a : Act} {Q : Exit → Act → World → Prop} (hgd : o.guard = none) (dd s : Operand)
    (ho : o.op = .call { callee := .builtin .copy, args := #[dd, s], argTypes := #[30, 30] }) {b i n c : Nat} {B t : Bytes} (hd : a.eval dd = .slice (some ⟨b, i, none⟩) n c) {sb so sc : Nat} {tl : Nat} (htl : t.length = tl) (hs : a.eval s = .slice (some ⟨sb, so, none⟩) tl sc) (h : Box W b B) (hsrc : W.rangeAt sb so (bcells t)) (hn : t.length ≤ n) (hi : i + t.length ≤ B.length)
    (hk : ∀ w1, Box w1 b (B.take i ++ t ++ B.drop (i + t.length)) → Turn (fun k => k = b) W w1 → w1.heap.size = W.heap.size → wpList Tryz.prog ops Q rest (a.put o.dst (.int .i64 (tl : Nat))) w1) : wpList Tryz.prog ops Q (o :: rest) a W := by
  subst htl
  refine wpList_plain hgd fun K hK => ?_
  have hr := run_copy_row (P := Tryz.prog) W 30 30 o.type 5 b i n c ⟨sb, so, none⟩ t.length sc _ _ (bcells t) Tryz.underlying30 (by kernel_rfl) h (by rw [bcells_length]; exact (Nat.min_eq_left hn).symm) (fun j v hv => by rw [Addr.add_lit]; exact hsrc j v hv) (by rw [bcells_length]; simpa using hi) (bcells_one t)
  unfold Oper.wp execOp
  simp only [ho, resolve, invoke, builtin, Sem.run_bind, Sem.run_pure, Result.andThen_ok, List.map_toArray, List.map_cons, List.map_nil, hs, hd, hr]
  have e : ((bcells B).toArray.toList.take i ++ bcells t ++ (bcells B).toArray.toList.drop (i + (bcells t).length)).toArray = (bcells (B.take i ++ t ++ B.drop (i + t.length))).toArray := by
    rw [bcells_length, bcells_append, bcells_append, ← bcells_take, ← bcells_drop]
  rw [bcells_length] at e ⊢
  refine hK _ _ ?_
  rw [e]
  exact hk _ h.setRow ((Turn.refl (fun k => k = b) W).setRow (fun _ => rfl) _) (by simp [World.setRow])
end
end Go.Flr
