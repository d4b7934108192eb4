/-
  ConsoleRubs, walked.
-/
import Derived.Test.YtjdafmpkobelcaaConRubs
import Derived.Test.YtjdafmpkobelcaaConPieces
namespace Go.Con
open Go.Own Go.RowKit Go.Proofs

/-- The law's console: its typed line is t, the lines ls wait for task 1; whatever was there when the law began stands. -/
def RS (w0 : World) (gc : Nat) (t : Bytes) (ls : List Bytes) (N : Nat) (w : World) : Prop :=
  ∃ g S, Rep g S w ∧ g.c = gc ∧ S.Ok ∧ S.Small N ∧ St S t ls ∧ (∀ k, k < w0.heap.size → (g.ρ k).1 = 0) ∧ Old w0 w

def RPost (w0 : World) (gc : Nat) (t : Bytes) (ls : List Bytes) (N : Nat) (out : List Ln) (e : Ending) (w' : World) : Prop :=
  ∃ v, e = .returned v ∧ RS w0 gc t ls N w' ∧ SliceAt w' 28 2 v (lcells out)

section
variable {w0 w : World} {gc N : Nat} {t : Bytes} {ls : List Bytes}

theorem Old.step {g g' : Ghost} {w0 w w' : World} (h : Old w0 w) (hz : ∀ k, k < w0.heap.size → (g.ρ k).1 = 0) (s : Step g g' w w') : Old w0 w' :=
  ⟨s.turn.os.trans h.os, s.turn.tape.trans h.tape, s.turn.output.trans h.output, Nat.le_trans h.size s.turn.size, fun k hk hn => by
    have h1 : k < w0.heap.size := hk
    rw [s.turn.block k (Nat.lt_of_lt_of_le hk h.size) (by simp [hz k h1])]
    exact h.block k hk hn⟩

theorem RS.type_any {a : Option Addr} {cap : Nat} {l : Bytes} {out : List Ln} {t' : Bytes} {ls' : List Bytes} (h : RS w0 gc t ls N w) (hN : N + 250 * l.length ≤ 1099511000000) (hl : l.length ≤ 1000000)
    (hin : ∀ g S, Rep g S w → (∀ k, k < w0.heap.size → (g.ρ k).1 = 0) → BIn g.ρ w a l) (hst : ∀ S, St S t ls → St (S.type l).1 t' ls' ∧ (S.type l).2 = out) (n : Nat) (hn : n = l.length) :
    Calls Try.prog 8 #[.pointer (some ⟨gc, 0, none⟩), .slice a n cap] w (RPost w0 gc t' ls' (N + 250 * l.length) out) := by
  subst hn
  obtain ⟨g, S, r, hc, ok, sm, st, hz, ho⟩ := h
  refine (type_calls a cap l hc r ok sm hN hl (hin g S r hz)).mono ?_
  rintro e w' ⟨v, g', rfl, r', s', o', n'⟩
  have h2 := hst S st
  rw [h2.2] at o'
  exact ⟨v, rfl, ⟨g', _, r', s'.c.trans hc, CS.type_ok ok l, CS.type_small sm ok l (Nat.le_refl _), h2.1, fun k hk => by rw [s'.tags k (Nat.lt_of_lt_of_le hk ho.size)]; exact hz k hk, ho.step hz s'⟩, o'⟩

theorem RS.bin_old {a : Option Addr} {l : Bytes} (h : RS w0 gc t ls N w) (hin : BCells w0 a l) : ∀ g S, Rep g S w → (∀ k, k < w0.heap.size → (g.ρ k).1 = 0) → BIn g.ρ w a l := by
  obtain ⟨_, _, _, _, _, _, _, _, ho⟩ := h
  intro g S r hz
  by_cases hl : l = []
  · exact .inl hl
  · obtain ⟨b, off, ha, hc⟩ := hin.resolve_left hl
    have hb := World.block_lt_of_cell? w0 _ (hc 0 (List.length_pos_iff.2 hl))
    refine .inr ⟨b, off, ha, hz b hb, Nat.lt_of_lt_of_le hb ho.size, fun i hi => ?_⟩
    obtain ⟨b', off', ha', hc'⟩ := (hin.old ho).resolve_left hl
    rw [ha] at ha'
    cases ha'
    exact hc' i hi

theorem RS.alloc (h : RS w0 gc t ls N w) (o : Obj) : RS w0 gc t ls N (w.alloc o) := by
  obtain ⟨g, S, r, hc, ok, sm, st, hz, ho⟩ := h
  exact ⟨g, S, r.alloc o, hc, ok, sm, st, hz, Turn.alloc ho o⟩
theorem RS.drew (h : RS w0 gc t ls N w) : RS w0 gc t ls N w.drew := by
  obtain ⟨g, S, r, hc, ok, sm, st, hz, ho⟩ := h
  exact ⟨g, S, r.drew, hc, ok, sm, st, hz, Turn.drew ho⟩

theorem BIn.top {g : Ghost} {S : CS} {w : World} (l : Bytes) (e : TypeId) (h : Rep g S (w.alloc (.cells (bcells l).toArray e))) (hf : (g.ρ w.heap.size).1 = 0) : BIn g.ρ (w.alloc (.cells (bcells l).toArray e)) (some ⟨w.heap.size, 0, none⟩) l :=
  .inr ⟨w.heap.size, 0, rfl, hf, by simp, fun i hi => by
    refine cell_at (heap_alloc_new w _) ?_
    simp [bcells, hi]⟩

/-- Type of one byte, out of a new slice. -/
theorem RS.type_new (b : UInt8) (n : Int) (hbn : (b.toNat : Int) = n) {out : List Ln} {t' : Bytes} {ls' : List Bytes} (h : RS w0 gc t ls N w) (hN : N + 250 ≤ 1099511000000) (hst : ∀ S, St S t ls → St (S.type [b]).1 t' ls' ∧ (S.type [b]).2 = out) :
    Calls Try.prog 8 #[.pointer (some ⟨gc, 0, none⟩), .slice (some ⟨w.heap.size, 0, none⟩) 1 1] (w.alloc (.cells #[.int .u8 n] 5)) (RPost w0 gc t' ls' (N + 250) out) := by
  subst hbn
  obtain ⟨g, S, r, hc, ok, sm, st, hz, ho⟩ := h
  refine (type_calls (some ⟨w.heap.size, 0, none⟩) 1 [b] hc (r.alloc (.cells #[.int .u8 (b.toNat : Int)] 5)) ok sm (by simpa using hN) (by simp) (BIn.made r [b] 5)).mono ?_
  rintro e w' ⟨v, g', rfl, r', s', o', n'⟩
  have h2 := hst S st
  rw [h2.2] at o'
  have ho' : Old w0 (w.alloc (.cells #[.int .u8 (b.toNat : Int)] 5)) := Turn.alloc ho _
  exact ⟨v, rfl, ⟨g', _, r', s'.c.trans hc, CS.type_ok ok _, CS.type_small sm ok _ (by simp), h2.1, fun k hk => by rw [s'.tags k (Nat.lt_of_lt_of_le hk ho'.size)]; exact hz k hk, ho'.step hz s'⟩, o'⟩

theorem RS.typed (h : RS w0 gc t ls N w) : Calls Try.prog 14 #[.pointer (some ⟨gc, 0, none⟩)] w fun e w' => e = .returned (.string ⟨t.toArray⟩) ∧ w' = w := by
  obtain ⟨g, S, r, hc, ok, sm, st, hz, ho⟩ := h
  have := typed_calls hc r
  rwa [st.1] at this

theorem RS.read (h : RS w0 gc t ls N w) {s : Bytes} {rest : List Bytes} (hl : ls = s :: rest) : Calls Try.prog 9 #[.pointer (some ⟨gc, 0, none⟩), .int .i64 1] w fun e w' => e = .returned (.tuple #[.string ⟨s.toArray⟩, .bool true]) ∧ RS w0 gc t rest N w' := by
  obtain ⟨g, S, r, hc, ok, sm, st, hz, ho⟩ := h
  refine (read_some 1 (wf_i64 (by omega) (by omega)) hc r (st.2.2.2.trans hl)).mono ?_
  rintro e w' ⟨rfl, g', r', s'⟩
  refine ⟨rfl, g', _, r', s'.c.trans hc, ⟨ok.typed, ok.chosen0, ok.chosen, ok.digits0, ok.digits, ok.number0, ok.number, ok.typing, ok.one, ok.flags0, ok.flags, ok.out, ok.last0, ok.last⟩, ⟨sm.screen, fun k => ?_, fun k x hx => ?_⟩, ⟨st.1, st.2.1, st.2.2.1, by show upd S.lines 1 rest 1 = rest; rw [upd_self]⟩, fun k hk => by rw [s'.tags k (Nat.lt_of_lt_of_le hk ho.size)]; exact hz k hk, ho.step hz s'⟩
  · show (upd S.lines 1 rest k).length ≤ N
    unfold upd
    split
    · have := sm.lines 1
      rw [st.2.2.2, hl] at this
      simp at this
      omega
    · exact sm.lines k
  · have hx' : x ∈ upd S.lines 1 rest k := hx
    unfold upd at hx'
    split at hx'
    · refine sm.line 1 x ?_
      rw [st.2.2.2, hl]
      exact List.mem_cons_of_mem _ hx'
    · exact sm.line k x hx'
end
end Go.Con
