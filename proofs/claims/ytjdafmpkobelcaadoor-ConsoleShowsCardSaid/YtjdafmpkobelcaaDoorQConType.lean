/-
  The console's Type and New, walked.
-/
import Derived.Test.YtjdafmpkobelcaaDoorQConKey
set_option linter.unusedVariables false

namespace Go.Con
open Go.Own Go.RowKit Go.Proofs

theorem elemLine : Elem Tryd.prog 41 2 24 (.agg #[.int .i64 0, .string ByteArray.empty]) := Elem.mk' (by kernel_rfl) rfl (by decide)

/-- Bytes that came in: they lie in a block that is not the console's. -/
def BIn (ρ : Tags) (w : World) (a : Option Addr) (l : Bytes) : Prop :=
  l = [] ∨ ∃ b off, a = some ⟨b, off, none⟩ ∧ (ρ b).1 = 0 ∧ b < w.heap.size ∧ ∀ i (h : i < l.length), w.cell? ⟨b, off + i, none⟩ = some (.int .u8 (l[i].toNat : Int))

section
variable {g : Ghost} {S : CS} {w w' : World}

theorem Step.turn_new {g g' : Ghost} {w wr w2 : World} {T : Nat → Prop} (h : Step g g' w wr) (ht : Turn T wr w2) (hT : ∀ k, T k → w.heap.size ≤ k) : Step g g' w w2 := by
  have hs := h.turn.size
  refine ⟨⟨ht.os.trans h.turn.os, ht.tape.trans h.turn.tape, ht.output.trans h.turn.output, Nat.le_trans hs ht.size, fun k hk hn => ?_⟩, h.tags, h.c⟩
  rw [ht.block k (by omega) (fun hh => by have := hT k hh; omega)]
  exact h.turn.block k hk hn

theorem BIn.step {g g' : Ghost} {w w' : World} {a : Option Addr} {l : Bytes} (h : BIn g.ρ w a l) (hs : Step g g' w w') : BIn g'.ρ w' a l := by
  rcases h with h | ⟨b, off, ha, hr, hb, hc⟩
  · exact .inl h
  · refine .inr ⟨b, off, ha, by rw [hs.tags b hb]; exact hr, Nat.lt_of_lt_of_le hb hs.turn.size, fun i hi => ?_⟩
    rw [hs.turn.cell (by simp [hr]) hb]
    exact hc i hi

def TypeInv (g : Ghost) (S : CS) (w : World) (l : Bytes) (k : Nat) (ov : Value) (wr : World) : Prop :=
  ∃ g', Rep g' (S.type (l.take k)).1 wr ∧ Step g g' w wr ∧ SliceAt wr 41 2 ov (lcells (S.type (l.take k)).2) ∧ ∀ b, ov.ownBlock = some b → w.heap.size ≤ b ∧ (g'.ρ b).1 = 0

theorem type_take_succ (S : CS) (l : Bytes) (k : Nat) (h : k < l.length) : S.type (l.take (k + 1)) = (((S.type (l.take k)).1.key l[k]).1, (S.type (l.take k)).2 ++ ((S.type (l.take k)).1.key l[k]).2) := by
  rw [List.take_succ_eq_append_getElem h, CS.type_append]
  simp [CS.type]

set_option maxHeartbeats 1000000 in
theorem type_calls (a : Option Addr) (cap : Nat) (l : Bytes) {c : Nat} (hc : g.c = c) (h : Rep g S w) (hok : S.Ok) {N : Nat} (hsm : S.Small N) (hN : N + 250 * l.length ≤ 1099511000000) (hl : l.length ≤ 1000000) (hin : BIn g.ρ w a l) :
    Calls Tryd.prog 15 #[.pointer (some ⟨c, 0, none⟩), .slice a l.length cap] w (LinesPost g w (S.type l)) := by
  subst hc
  go_enter Tryd.func15, Tryd.ntmps15
  go_wp2_with (go_at_call 24; refine (ready_calls rfl h).mono ?_; rintro e1 w1 ⟨rfl, rfl⟩)
  go_loopw [5, 14] (fun out i wr => ∃ k : Nat, k ≤ l.length ∧ i = .int .i64 k ∧ TypeInv g S w1 l k out wr) (fun _ i _ => l.length - (intOf i).toNat)
  case atStart => exact ⟨0, Nat.zero_le _, rfl, g, h, Step.refl _ _, SliceAt.nil _ _ _, fun b hb => by simp [Value.ownBlock] at hb⟩
  case round =>
    obtain ⟨k, hk, rfl, g1, r1, s1, o1, n1⟩ := hrel
    by_cases hlt : k < l.length
    · have hin1 := hin.step s1
      obtain ⟨b, off, rfl, hb0, hb1, hcell⟩ := hin1.resolve_left (fun e => by rw [e] at hlt; simp at hlt)
      have hck := hcell k hlt
      obtain ⟨oa, on, oc, rfl, ol, -⟩ := o1.form
      have ok1 := CS.type_ok hok (l.take k)
      have sm1 : (S.type (l.take k)).1.Small 1099511000000 := CS.type_small hsm hok _ (by rw [List.length_take]; omega)
      have hsucc := type_take_succ S l k hlt
      have hln := CS.type_lines S (l.take k)
      have hkl := CS.key_lines (S.type (l.take k)).1 l[k]
      rw [lcells_length] at ol
      have hln2 : (S.type (l.take k)).2.length ≤ k := by rw [List.length_take] at hln; omega
      have HS := Lib.hid hsucc
      have OL := Lib.hid o1.lt
      clear hsucc hin1 hcell hln ol
      generalize hbk : l[k] = bk at *
      clear hbk
      generalize hSk : S.type (l.take k) = Rk at *
      clear hSk
      go_wp2_with (first
        | (go_at_call 26; refine (key_calls bk s1.c r1 ok1 sm1).mono ?_; rintro e2 w2 ⟨v2, g2, rfl, r2, s2, o2, n2⟩
           obtain ⟨qa, qn, qc, rfl, -⟩ := o2.form
           have o1' : SliceAt w2 41 2 (.slice oa on oc) (lcells Rk.2) := o1.turn s2.turn (fun q hq => by simp [(n1 q hq).2])
           clear o1)
        | (at_builtin; refine wpList_append _ rfl _ _ 38 38 rfl 41 2 24 (.agg #[.int .i64 0, .string ByteArray.empty]) Tryd.underlying38 (.inr ⟨_, Tryd.underlying38⟩) elemLine (.slice oa on oc) _ rfl o1' _ _ _ rfl (Src.of_slice o2) (lcells_one _) (by rw [lcells_length, lcells_length]; omega) (by rw [lcells_length, lcells_length]; omega) ?_
           intro v3 w3 hv3 ht3 hw3 hn3; clear hn3; obtain ⟨pa, pn, pc, rfl, -⟩ := hv3.form))
      go_roundw
      case rel =>
        have hb2 := s1.turn.size
        have hb3 := s2.turn.size
        have hT : ∀ q, (Value.slice oa on oc).ownBlock = some q → w1.heap.size ≤ q ∧ (g2.ρ q).1 = 0 := fun q hq => ⟨(n1 q hq).1, by rw [s2.tags q (OL.out q hq)]; exact (n1 q hq).2⟩
        refine ⟨k + 1, by omega, by go_num, g2, ?_, (s1.trans s2).turn_new ht3 (fun q hq => (hT q hq).1), ?_, fun q hq => ?_⟩
        · rw [HS.out]
          exact r2.keep ht3 (fun q _ hq => (hT q hq).2)
        · rw [HS.out, lcells_append]; exact hv3
        · rcases hw3 with hw3 | hw3
          · exact hT q (hw3 ▸ hq)
          · rw [hw3] at hq
            cases hq
            exact ⟨by omega, r2.fresh _ (Nat.le_refl _)⟩
      case measure => simp [intOf]; omega
    · obtain rfl : k = l.length := by omega
      go_wp2
      go_ret
      rw [List.take_length] at r1 o1
      exact ⟨_, g1, rfl, r1, s1, o1, n1⟩

/-- A console that New has made: its block and its maps are new; nothing else has turned. -/
def NewPost (w : World) (e : Ending) (w' : World) : Prop :=
  ∃ g, e = .returned (.pointer (some ⟨g.c, 0, none⟩)) ∧ Rep g CS.new w' ∧ Turn (fun _ => False) w w' ∧ (∀ k, k < w.heap.size → g.ρ k = (0, 0)) ∧ w.heap.size ≤ g.c

set_option maxHeartbeats 1000000 in
theorem new_calls (w : World) : Calls Tryd.prog 8 #[] w (NewPost w) := by
  have q := fun W : World => run_eql_map_nil W 54 _ _ none Tryd.underlying54
  have hmm := @run_makeMap Tryd.prog
  go_enter Tryd.func8, Tryd.ntmps8
  go_wp2
  go_end0
  go_wp2
  go_ret
  obtain ⟨w1, hw1⟩ : ∃ x, x = w.alloc (.cells #[.slice none 0 0, .int .i64 1, .bool false, .int .i64 0, .int .i64 0, .map (some (w.heap.size + 1)), .map (some (w.heap.size + 1 + 1)), .map (some (w.heap.size + 1 + 1 + 1)), .int .i64 1, .slice none 0 0] 58) := ⟨_, rfl⟩
  rw [← hw1]
  have z1 : w1.heap.size = w.heap.size + 1 := by rw [hw1]; simp
  have b1 : w1.heap[w.heap.size]? = some (.cells #[.slice none 0 0, .int .i64 1, .bool false, .int .i64 0, .int .i64 0, .map (some (w.heap.size + 1)), .map (some (w.heap.size + 1 + 1)), .map (some (w.heap.size + 1 + 1 + 1)), .int .i64 1, .slice none 0 0] 58 (0, 0)) := by rw [hw1]; exact heap_alloc_new w _
  have t1 : Turn (fun _ => False) w w1 := by rw [hw1]; exact (Turn.refl _ _).alloc _
  obtain ⟨w2, hw2⟩ : ∃ x, x = w1.alloc (.map #[] 0) := ⟨_, rfl⟩
  obtain ⟨w3, hw3⟩ : ∃ x, x = w2.alloc (.map #[] 0) := ⟨_, rfl⟩
  obtain ⟨w4, hw4⟩ : ∃ x, x = w3.alloc (.map #[] 0) := ⟨_, rfl⟩
  rw [← hw2, ← hw3, ← hw4]
  have z2 : w2.heap.size = w.heap.size + 2 := by rw [hw2]; simp; omega
  have z3 : w3.heap.size = w.heap.size + 3 := by rw [hw3]; simp; omega
  have z4 : w4.heap.size = w.heap.size + 4 := by rw [hw4]; simp; omega
  have k2 : ∀ k, k < w1.heap.size → w2.heap[k]? = w1.heap[k]? := fun k hk => by rw [hw2]; exact heap_alloc_lt w1 _ k hk
  have k3 : ∀ k, k < w2.heap.size → w3.heap[k]? = w2.heap[k]? := fun k hk => by rw [hw3]; exact heap_alloc_lt w2 _ k hk
  have k4 : ∀ k, k < w3.heap.size → w4.heap[k]? = w3.heap[k]? := fun k hk => by rw [hw4]; exact heap_alloc_lt w3 _ k hk
  have m2 : w2.heap[w.heap.size + 1]? = some (.map #[] 0) := by rw [hw2, ← z1]; exact heap_alloc_new w1 _
  have m3 : w3.heap[w.heap.size + 2]? = some (.map #[] 0) := by rw [hw3, ← z2]; exact heap_alloc_new w2 _
  have m4 : w4.heap[w.heap.size + 3]? = some (.map #[] 0) := by rw [hw4, ← z3]; exact heap_alloc_new w3 _
  have t4 : Turn (fun _ => False) w w4 := by rw [hw4, hw3, hw2]; exact ((t1.alloc _).alloc _).alloc _
  clear hw1 hw2 hw3 hw4
  generalize hN : w.heap.size = n at *
  refine ⟨⟨n, n + 1, n + 2, n + 3, nilSlice, nilSlice, fun _ => none, fun _ => none, fun _ => none, fun k => if k = n then (1, 0) else if k = n + 1 then (4, 0) else if k = n + 2 then (5, 0) else if k = n + 3 then (6, 0) else (0, 0)⟩, rfl, ?_, t4, ?_, Nat.le_of_eq hN⟩
  · refine { blk := ?_, tc := ?_, tl := ?_, tf := ?_, tot := ?_, fresh := ?_, typed := SliceT.nil _ _ _ _ _, screen := SliceT.nil _ _ _ _ _, lines := ?_, linesv := fun k => SliceT.nil _ _ _ _ _, flags := ?_, flagsv := fun _ => rfl, out := ?_, outv := fun k => SliceT.nil _ _ _ _ _ }
    · show w4.heap[n]? = _
      rw [k4 n (by omega), k3 n (by omega), k2 n (by omega)]; exact b1
    · simp
    · simp
    · simp
    · simp
    · intro k hk
      show (if k = n then ((1, 0) : Tag) else if k = n + 1 then (4, 0) else if k = n + 2 then (5, 0) else if k = n + 3 then (6, 0) else (0, 0)).1 = 0
      rw [if_neg (by omega), if_neg (by omega), if_neg (by omega), if_neg (by omega)]
    · refine MapAt.of_block ?_
      show w4.heap[n + 1]? = _
      rw [k4 _ (by omega), k3 _ (by omega)]; exact m2
    · refine MapAt.of_block ?_
      show w4.heap[n + 2]? = _
      rw [k4 _ (by omega)]; exact m3
    · exact MapAt.of_block m4
  · intro k hk
    show (if k = n then ((1, 0) : Tag) else if k = n + 1 then (4, 0) else if k = n + 2 then (5, 0) else if k = n + 3 then (6, 0) else (0, 0)) = _
    rw [if_neg (by omega), if_neg (by omega), if_neg (by omega), if_neg (by omega)]
end
end Go.Con
