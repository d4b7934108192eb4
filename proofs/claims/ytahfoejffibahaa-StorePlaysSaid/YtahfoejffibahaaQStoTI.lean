/-
  Two slices of a caller's own beside a store: what the calls and the appends leave of them.
-/
import Derived.Deep.Slices
import Derived.OpenShut
import Derived.Test.YtahfoejffibahaaQStoTop
set_option linter.unusedVariables false

namespace Go.Sto
open Go.Own Go.RowKit Go.Proofs

structure MI (w0 : World) (n : Nat) (g : Ghost) (S : St) (vh vm : Value) (hs ms : List Int) (w : World) : Prop where
  repo : Repo g S w
  gn : g.n = n
  held : SliceAt w 3 1 vh (icells hs)
  marks : SliceAt w 3 1 vm (icells ms)
  th : ∀ b, vh.ownBlock = some b → (g.ρ b).1 = 0 ∧ w0.heap.size ≤ b
  tm : ∀ b, vm.ownBlock = some b → (g.ρ b).1 = 0 ∧ w0.heap.size ≤ b
  apart : ∀ b, vh.ownBlock = some b → vm.ownBlock ≠ some b
  old : Old w0 w
  tags : ∀ k, k < w0.heap.size → (g.ρ k).1 = 0

section
variable {w0 w w' : World} {n : Nat} {g g' : Ghost} {S S' : St} {vh vm v' : Value} {hs ms l : List Int}

/-- A call on the store. -/
theorem MI.step (h : MI w0 n g S vh vm hs ms w) (r : Repo g' S' w') (s : Step g g' w w') : MI w0 n g' S' vh vm hs ms w' := by
  have hz := h.old.size
  exact { repo := r, gn := s.n.trans h.gn
          held := h.held.turn s.turn fun b hb hh => hh (h.th b hb).1
          marks := h.marks.turn s.turn fun b hb hh => hh (h.tm b hb).1
          th := fun b hb => ⟨by rw [s.tags b (h.held.lt b hb)]; exact (h.th b hb).1, (h.th b hb).2⟩
          tm := fun b hb => ⟨by rw [s.tags b (h.marks.lt b hb)]; exact (h.tm b hb).1, (h.tm b hb).2⟩
          apart := h.apart
          old := ⟨s.turn.os.trans h.old.os, s.turn.tape.trans h.old.tape, s.turn.output.trans h.old.output, Nat.le_trans hz s.turn.size, fun k hk hn => by
            rw [s.turn.block k (by omega) (fun hh => hh (h.tags k (by omega)))]
            exact h.old.block k hk hn⟩
          tags := fun k hk => by rw [s.tags k (by omega)]; exact h.tags k hk }

theorem MI.below (h : MI w0 n g S vh vm hs ms w) (hB : Below w.heap.size w w') : MI w0 n g S vh vm hs ms w' :=
  h.step ⟨h.repo.rep.below hB (Nat.le_refl _), h.repo.ok⟩ (Step.bel hB)

theorem MI.set_held (h : MI w0 n g S vh vm hs ms w) (ht : Turn (fun k => vh.ownBlock = some k ∨ w.heap.size ≤ k) w w') (hv : SliceAt w' 3 1 v' (icells l)) (hb : ∀ b, v'.ownBlock = some b → vh.ownBlock = some b ∨ w.heap.size ≤ b) : MI w0 n g S v' vm l ms w' := by
  have hz := h.old.size
  have hm : ∀ b, v'.ownBlock = some b → vm.ownBlock ≠ some b := fun b hb' e => by
    rcases hb b hb' with q | q
    · exact h.apart b q e
    · have := h.marks.lt b e; omega
  exact { repo := ⟨h.repo.rep.keep ht (fun k hk hT => by
            rcases hT with hT | hT
            · exact (h.th k hT).1
            · omega), h.repo.ok⟩
          gn := h.gn, held := hv
          marks := h.marks.turn ht fun b hb' hT => by
            rcases hT with hT | hT
            · exact h.apart b hT hb'
            · have := h.marks.lt b hb'; omega
          th := fun b hb' => by
            rcases hb b hb' with q | q
            · exact h.th b q
            · exact ⟨h.repo.rep.fresh b q, by omega⟩
          tm := h.tm, apart := hm
          old := ⟨ht.os.trans h.old.os, ht.tape.trans h.old.tape, ht.output.trans h.old.output, Nat.le_trans hz ht.size, fun k hk hn => by
            rw [ht.block k (by omega) (fun hT => by
              rcases hT with hT | hT
              · exact hn (h.th k hT).2
              · omega)]
            exact h.old.block k hk hn⟩
          tags := h.tags }

theorem MI.swap (h : MI w0 n g S vh vm hs ms w) : MI w0 n g S vm vh ms hs w :=
  { repo := h.repo, gn := h.gn, held := h.marks, marks := h.held, th := h.tm, tm := h.th, apart := fun b hb e => h.apart b e hb, old := h.old, tags := h.tags }

theorem MI.set_marks (h : MI w0 n g S vh vm hs ms w) (ht : Turn (fun k => vm.ownBlock = some k ∨ w.heap.size ≤ k) w w') (hv : SliceAt w' 3 1 v' (icells l)) (hb : ∀ b, v'.ownBlock = some b → vm.ownBlock = some b ∨ w.heap.size ≤ b) : MI w0 n g S vh v' hs l w' :=
  (h.swap.set_held ht hv hb).swap

/-- A slice of ints that is owned: its form, and each cell. -/
theorem ints_form {v : Value} (h : SliceAt w 3 1 v (icells l)) : ∃ a cap, v = .slice a l.length cap ∧ l.length ≤ cap ∧ cap ≤ maxLen ∧ ∀ k x, l[k]? = some x → ∃ b off, a = some ⟨b, off, none⟩ ∧ w.cell? ⟨b, off + k, none⟩ = some (.int .i64 x) := by
  obtain ⟨a, n, cap, rfl, hl, hn, hc, -⟩ := h.form
  have : n = l.length := by simpa using hl.symm
  subst this
  refine ⟨a, cap, rfl, hn, hc, fun k x hk => ?_⟩
  have hk' : k < l.length := (List.getElem?_eq_some_iff.1 hk).1
  obtain ⟨b, off, rfl⟩ := h.addr (by omega)
  exact ⟨b, off, rfl, h.cells k _ (by simp [icells, hk])⟩
end

theorem oneCell_icells (l : List Int) : ∀ u ∈ icells l, u.oneCell' = true := by
  intro u hu
  obtain ⟨x, -, rfl⟩ := List.mem_map.1 hu
  rfl

/-- What is left of a slice behind its first K + 1 elements: Go keeps the address where nothing is left to grow into. -/
def restv (b off n cap K : Nat) : Value := if cap = K + 1 then .slice (some ⟨b, off, none⟩) 0 0 else .slice (some ⟨b, off + (K + 1), none⟩) (n - (K + 1)) (cap - (K + 1))

/-- append(append([]int(nil), l[:K]...), l[K+1:]...) -/
theorem removal {w : World} {b off cap : Nat} {l : List Int} {K : Nat} (h : SliceAt w 3 1 (.slice (some ⟨b, off, none⟩) l.length cap) (icells l)) (hK : K < l.length) (hl : l.length ≤ 1000) :
    ∃ vA wA vB wB, (Builtin.append_ #[24, 24] 24 #[.slice none 0 0, .slice (some ⟨b, off, none⟩) K cap]).run Try.prog w.drew = .ok vA wA ∧ (Builtin.append_ #[24, 24] 24 #[vA, restv b off l.length cap K]).run Try.prog wA = .ok vB wB ∧
      SliceAt wB 3 1 vB (icells (l.take K ++ l.drop (K + 1))) ∧ Turn (fun k => w.heap.size ≤ k) w wB ∧ (∀ k, vB.ownBlock = some k → w.heap.size ≤ k) := by
  have hsl := SliceAt.drew h
  have hcap : l.length ≤ cap := by
    obtain ⟨a', n', cap', e, -, h2, -⟩ := h.form
    cases e; exact h2
  obtain ⟨vA, wA, hrA, hsA, htA, hwA, -⟩ := run_append (P := Try.prog) w.drew 24 24 24 3 1 8 (.int .i64 0) Try.underlying24 (.inr ⟨_, Try.underlying24⟩) elemInt
    (.slice none 0 0) [] (SliceAt.nil _ _ _) (.slice (some ⟨b, off, none⟩) K cap) K (icells (l.take K)) (by
      have := Src.of_slice (hsl.take K (Nat.le_of_lt hK))
      rwa [Nat.mul_one, ← icells_take] at this) (oneCell_icells _) (by simp; omega) (by simp; omega)
  rw [List.nil_append] at hsA
  have hslA : SliceAt wA 3 1 (.slice (some ⟨b, off, none⟩) l.length cap) (icells l) := hsl.turn htA (fun b hb e => by simp [Value.ownBlock] at e)
  have hdr : SliceAt wA 3 1 (restv b off l.length cap K) (icells (l.drop (K + 1))) := by
    unfold restv
    split
    · have e : l.drop (K + 1) = [] := List.drop_eq_nil_of_le (by omega)
      rw [e]; exact hslA.empty
    · have := hslA.drop (K + 1) (by omega)
      rw [Nat.mul_one] at this
      have e : icells (l.drop (K + 1)) = (icells l).drop (K + 1) := by simp [icells]
      rw [e]; exact this
  obtain ⟨vB, wB, hrB, hsB, htB, hwB, -⟩ := run_append (P := Try.prog) wA 24 24 24 3 1 8 (.int .i64 0) Try.underlying24 (.inr ⟨_, Try.underlying24⟩) elemInt
    vA _ hsA (restv b off l.length cap K) (l.length - (K + 1)) (icells (l.drop (K + 1)))
    (by
      unfold restv at hdr ⊢
      split
      · rw [if_pos (by assumption)] at hdr
        have := Src.of_slice hdr
        rw [show l.length - (K + 1) = 0 from by omega]; exact this
      · rw [if_neg (by assumption)] at hdr
        exact Src.of_slice hdr) (oneCell_icells _) (by simp; omega) (by simp; omega)
  have hsz : w.heap.size ≤ wA.heap.size := htA.size
  refine ⟨vA, wA, vB, wB, hrA, hrB, by rw [icells_append]; exact hsB, Turn.trans (b := wA) (htA.drew_left.mono fun k _ e => by simp [Value.ownBlock] at e) ⟨htB.os, htB.tape, htB.output, htB.size, fun k hk hn => htB.block k hk fun e => ?_⟩, fun k hk => ?_⟩
  · rcases hwA with q | q
    · rw [q] at e; simp [Value.ownBlock] at e
    · rw [q] at e
      have e' : w.heap.size = k := Option.some.inj e
      exact hn (by omega)
  · rcases hwB with q | q
    · rw [q] at hk
      rcases hwA with q' | q'
      · rw [q'] at hk; simp [Value.ownBlock] at hk
      · rw [q'] at hk
        have e' : w.heap.size = k := Option.some.inj hk
        omega
    · rw [q] at hk
      have e' : wA.heap.size = k := Option.some.inj hk
      omega

theorem cut_facts {K n c : Nat} (h : K < n) (hc : n ≤ c) (hn : n ≤ 1000) : IntKind.i64.wrap ((K : Int) + 1) = (K : Int) + 1 ∧ wrap64 ((K : Int) + 1) = (K : Int) + 1 ∧ (K : Int) ≤ c ∧ (K : Int) + 1 ≤ (n : Int) ∧ (0 : Int) ≤ (K : Int) + 1 ∧ ((K : Int) + 1).toNat = K + 1 ∧ ((n : Int) - ((K : Int) + 1)).toNat = n - (K + 1) :=
  ⟨IntWalk.i64_in _ (by omega), by unfold wrap64; omega, by omega, by omega, by omega, by omega, by omega⟩
theorem cut_facts1 {K n c : Nat} (h : K < n) (hc : n ≤ c) (e : c = K + 1) : n - (K + 1) = 0 ∧ c - (K + 1) = 0 ∧ ((n : Int) - ((K : Int) + 1)).toNat = 0 ∧ ((c : Int) - ((K : Int) + 1)).toNat = 0 ∧ (((c : Int) - ((K : Int) + 1)) == 0) = true ∧ K + 1 = c ∧ n - c = 0 :=
  ⟨by omega, by omega, by omega, by omega, beq_iff_eq.2 (by omega), by omega, by omega⟩
theorem cut_facts2 {K n c : Nat} (h : K < n) (hc : n ≤ c) (e : ¬ c = K + 1) : ¬ c - (K + 1) = 0 ∧ ((c : Int) - ((K : Int) + 1)).toNat = c - (K + 1) ∧ (((c : Int) - ((K : Int) + 1)) == 0) = false :=
  ⟨by omega, by omega, beq_eq_false_iff_ne.2 (by omega)⟩

/-- A slice of pairs that came in. -/
def PIn (w : World) (a : Option Addr) (l : List (Int × Int)) : Prop :=
  l = [] ∨ ∃ b off, a = some ⟨b, off, none⟩ ∧ ∀ i p, l[i]? = some p → w.cell? ⟨b, off + i * 2, none⟩ = some (.int .i64 p.1) ∧ w.cell? ⟨b, off + i * 2 + 1, none⟩ = some (.int .i64 p.2)

theorem PIn.old {w0 w : World} {a : Option Addr} {l : List (Int × Int)} (h : PIn w0 a l) (ho : Old w0 w) : PIn w a l := by
  rcases h with h | ⟨b, off, ha, hc⟩
  · exact .inl h
  · refine .inr ⟨b, off, ha, fun i p hp => ?_⟩
    obtain ⟨h1, h2⟩ := hc i p hp
    have hlt := cell_lt h1
    have e := ho.block b hlt (fun hh => by simp at hlt; omega)
    refine ⟨?_, ?_⟩
    · rw [← h1]; simp [World.cell?, e]
    · rw [← h2]; simp [World.cell?, e]
end Go.Sto

/-
  A slice of pairs of ints that came in.
-/
namespace Go.Sto
open Go.Own Go.RowKit Go.Proofs Go.ChangeShapes Go.WideShapes

set_option maxRecDepth 100000 in
theorem open_pairs {H : Type} {enc : TypeId × Value → H} {w : World} {a : Option Addr} {len cap fuel : Nat} {x : DataW H × List MemPlace}
    (h : DataW.trod enc Try.prog w 0 (fun _ => true) true fuel 22 [.slice a len cap] = some x) :
    ∃ l : List (Int × Int), l.length = len ∧ PIn w a l ∧ ∀ p ∈ l, (Lit.int .i64 p.1).wf = true ∧ (Lit.int .i64 p.2).wf = true := by
  have hc2 : Try.prog.cellsOf 67 = 2 := by kernel_rfl
  have hc1 : Try.prog.cellsOf 3 = 1 := by kernel_rfl
  have hpu : Try.prog.underlying 67 = some (.array 2 3) := Try.underlying67
  rcases Go.Deep.open_slice Try.underlying22 h with ⟨hcs, -⟩ | ⟨ad, ln, cp, m, n, D, Pl, hcs, hb, hl, hm, hmm, -, hx⟩
  · simp only [List.cons.injEq, Value.slice.injEq] at hcs
    obtain ⟨⟨rfl, rfl, rfl⟩, -⟩ := hcs
    exact ⟨[], rfl, .inl rfl, fun p hp => by cases hp⟩
  · simp only [List.cons.injEq, Value.slice.injEq] at hcs
    obtain ⟨⟨rfl, rfl, rfl⟩, -⟩ := hcs
    rw [if_pos rfl] at hmm
    subst hmm
    have each : ∀ i, i < len → ∃ q : Int × Int, w.cell? (ad.add (i * 2)) = some (.int .i64 q.1) ∧ w.cell? (ad.add (i * 2 + 1)) = some (.int .i64 q.2) ∧ (Lit.int .i64 q.1).wf = true ∧ (Lit.int .i64 q.2).wf = true := by
      intro i hi
      obtain ⟨cs', h1, h2⟩ := hx i (by omega)
      rw [hc2] at h1
      obtain ⟨-, hlen, hcell⟩ := World.cells?_some h1
      obtain ⟨xs, k, -, -, -, hxl, hf⟩ := DataW.trod_array hpu h2
      match xs, hxl, cs', hlen with
      | [y0, y1], _, [v0, v1], _ =>
        have g0 := hf 0 (by omega)
        have g1 := hf 1 (by omega)
        simp [hc1] at g0 g1
        obtain ⟨z0, e0, -, f0⟩ := DataW.trod_int Try.underlying3 g0
        obtain ⟨z1, e1, -, f1⟩ := DataW.trod_int Try.underlying3 g1
        have c0 := hcell 0 (by omega)
        have c1 := hcell 1 (by omega)
        simp only [List.cons.injEq, and_true] at e0 e1
        subst e0; subst e1
        refine ⟨(z0, z1), ?_, ?_, f0, f1⟩
        · rw [Go.Deep.add_add] at c0; simpa using c0
        · rw [Go.Deep.add_add] at c1; simpa using c1
    obtain ⟨q, hq⟩ := Go.Deep.choose_lt each
    refine ⟨(List.range len).map q, by simp, ?_, fun p hp => ?_⟩
    · by_cases h0 : len = 0
      · left; simp [h0]
      · right
        have hspot : ad.spot = none := by
          have := (hq 0 (by omega)).1
          simpa [Addr.add] using World.cell?_spot this
        obtain ⟨b, off, sp⟩ := ad
        simp only at hspot
        subst hspot
        refine ⟨b, off, rfl, fun i p hp => ?_⟩
        have hi : i < len := by
          have := (List.getElem?_eq_some_iff.1 hp).1
          simpa using this
        have : p = q i := by simpa [hi] using hp.symm
        subst this
        have h1 := (hq i hi).1
        have h2 := (hq i hi).2.1
        rw [Addr.add_lit] at h1 h2
        exact ⟨h1, by rw [Nat.add_assoc]; exact h2⟩
    · obtain ⟨i, hi, rfl⟩ := List.mem_map.1 hp
      exact (hq i (by simpa using hi)).2.2
end Go.Sto
