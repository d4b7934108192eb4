/-
  ConsoleShows: what is wanted of each task, in memory, beside a console.
-/
import Derived.Test.YtjdafmpkobelcaaDoorQConShown
import Derived.Test.YtjdafmpkobelcaaDoorQConDoes
import Derived.Test.YtjdafmpkobelcaaDoorQConApart
set_option linter.unusedVariables false

namespace Go.Con
open Go.Own Go.RowKit Go.Proofs

def wcells (vs : Nat → Value) : Array Value := Array.ofFn (n := 100) fun i => vs i
theorem wcells_get (vs : Nat → Value) (i : Nat) (h : i < 100) : (wcells vs)[i]? = some (vs i) := by simp [wcells, h]
theorem wcells_set (vs : Nat → Value) (k : Nat) (v : Value) : (wcells vs).setIfInBounds k v = wcells (fun j => if j = k then v else vs j) := by
  apply Array.ext_getElem?
  intro j
  rw [Array.getElem?_setIfInBounds]
  by_cases h : j < 100
  · rw [wcells_get _ _ h, wcells_get _ _ h]
    by_cases e : k = j
    · subst e; rw [if_pos rfl, if_pos (by simpa [wcells] using h), if_pos rfl]
    · rw [if_neg e, if_neg (fun q => e q.symm)]
  · rw [Array.getElem?_eq_none (by simp [wcells]; omega), Array.getElem?_eq_none (by simp [wcells]; omega)]
    by_cases e : k = j
    · rw [if_pos e, if_neg (by simp [wcells]; omega)]
    · rw [if_neg e]

theorem run_wzero (w : World) : (zeroValue 27).run Tryd.prog w = .ok (.agg (wcells fun _ => nilSlice)) w := by kernel_rfl

/-- What is wanted, in memory: a block of a hundred slices. -/
structure SW (w0 : World) (g : Ghost) (C wb : Nat) (S : CS) (vs : Nat → Value) (want : Nat → Bytes) (w : World) : Prop where
  rep : Rep g S w
  c : g.c = C
  old : Old w0 w
  tags : ∀ k, k < w0.heap.size → (g.ρ k).1 = 0
  blk : w.heap[wb]? = some (.cells (wcells vs) 27 (0, 0))
  sl : ∀ t, t < 100 → SliceAt w 5 1 (vs t) (bcells (want t))
  ap : ∀ s t, s < 100 → t < 100 → s ≠ t → ∀ b, (vs s).ownBlock = some b → (vs t).ownBlock ≠ some b
  tg : ∀ t, t < 100 → ∀ b, (vs t).ownBlock = some b → (g.ρ b).1 = 0 ∧ w0.heap.size ≤ b
  tw : (g.ρ wb).1 = 0
  nw : w0.heap.size ≤ wb

section
variable {w0 w w1 : World} {g g1 : Ghost} {C wb : Nat} {S T : CS} {vs : Nat → Value} {want : Nat → Bytes}

theorem SW.own_ne (h : SW w0 g C wb S vs want w) (t : Nat) (ht : t < 100) : (vs t).ownBlock ≠ some wb := fun e => by
  rcases h.sl t ht with ⟨q, -⟩ | ⟨g', o, n, c, cur, q, hg, -⟩
  · rw [q] at e; simp [Value.ownBlock] at e
  · rw [q] at e
    simp [Value.ownBlock] at e
    subst e
    have e2 := Option.some.inj (h.blk.symm.trans hg)
    injection e2 with e3 e4
    exact absurd e4 (by decide)

/-- The console has turned. -/
theorem SW.console (h : SW w0 g C wb S vs want w) (r : Rep g1 T w1) (s : Step g g1 w w1) : SW w0 g1 C wb T vs want w1 := by
  have ho := old_step h.old h.tags s
  have hbl := heap_lt h.blk
  exact { rep := r, c := s.c.trans h.c, old := ho.1, tags := ho.2
          blk := (s.turn.block wb hbl (fun q => q h.tw)).trans h.blk
          sl := fun t ht => (h.sl t ht).turn s.turn fun b hb q => q (h.tg t ht b hb).1
          ap := h.ap
          tg := fun t ht b hb => ⟨by rw [s.tags b ((h.sl t ht).lt b hb)]; exact (h.tg t ht b hb).1, (h.tg t ht b hb).2⟩
          tw := by rw [s.tags wb hbl]; exact h.tw
          nw := h.nw }
theorem SW.new (h : SW w0 g C wb S vs want w) (t : Turn (fun _ => False) w w1) : SW w0 g C wb S vs want w1 :=
  h.console (h.rep.keep t (fun _ _ q => q.elim)) ⟨t.mono fun _ _ q => q.elim, fun _ _ => rfl, rfl⟩
theorem SW.alloc (h : SW w0 g C wb S vs want w) (o : Obj) : SW w0 g C wb S vs want (w.alloc o) := h.new ((Turn.refl _ w).alloc o)
theorem SW.drew (h : SW w0 g C wb S vs want w) : SW w0 g C wb S vs want w.drew := h.new ((Turn.refl _ w).drew)

/-- A byte is put behind what is wanted of a task. -/
theorem SW.put (h : SW w0 g C wb S vs want w) (k : Nat) (hk : k < 100) (y : Nat) (b : UInt8) (hy : b.toNat = y) (hl : (want k).length ≤ 1000000) :
    ∃ a0 n0 k0 pa pn pc w3, vs k = .slice a0 n0 k0 ∧
      (Builtin.append_ #[26, 26] 26 #[.slice a0 n0 k0, .slice (some ⟨w.heap.size, 0, none⟩) 1 1]).run Tryd.prog (w.alloc (.cells #[.int .u8 (y : Int)] 5)).drew = .ok (.slice pa pn pc) w3 ∧
      w3.heap[wb]? = some (.cells (wcells vs) 27 (0, 0)) ∧ Turn (fun j => (vs k).ownBlock = some j) (w.alloc (.cells #[.int .u8 (y : Int)] 5)).drew w3 ∧
      ∃ vs', SW w0 g C wb S vs' (fun t => if t = k then want t ++ [b] else want t) (w3.setCell ⟨wb, k, none⟩ (.slice pa pn pc)) := by
  obtain ⟨a0, n0, k0, hv0, hl0, -⟩ := (h.sl k hk).form
  rw [bcells_length, Nat.mul_one] at hl0
  have h1 := (h.alloc (.cells #[.int .u8 (y : Int)] 5)).drew
  have hsl := h1.sl k hk
  rw [hv0] at hsl
  obtain ⟨v', w3, happ, hv', hT, hown, -⟩ := run_append (P := Tryd.prog) (w.alloc (.cells #[.int .u8 (y : Int)] 5)).drew 26 26 26 5 1 1 (.int .u8 0) Tryd.underlying26 (.inr ⟨_, Tryd.underlying26⟩) elemU8
    (.slice a0 n0 k0) _ hsl (.slice (some ⟨w.heap.size, 0, none⟩) 1 1) 1 [.int .u8 (y : Int)] (Src.one (g := w.heap.size) (c := 1) rfl (heap_alloc_new w _)) (by intro u hu; simp at hu; subst hu; rfl) (by simp [bcells_length]; omega) (by simp [bcells_length]; omega)
  obtain ⟨pa, pn, pc, rfl, -⟩ := hv'.form
  have e1 : bcells (want k) ++ [.int .u8 (y : Int)] = bcells (want k ++ [b]) := by rw [bcells_append, show bcells [b] = [.int .u8 (y : Int)] from by simp [bcells, hy]]
  rw [e1] at hv'
  have hT' : Turn (fun j => (vs k).ownBlock = some j) (w.alloc (.cells #[.int .u8 (y : Int)] 5)).drew w3 := by rw [hv0]; exact hT
  have hbl := heap_lt h1.blk
  have hb3 : w3.heap[wb]? = some (.cells (wcells vs) 27 (0, 0)) := (hT'.block wb hbl (h.own_ne k hk)).trans h1.blk
  have hwn : ∀ j, (vs k).ownBlock = some j → (g.ρ j).1 = 0 := fun j hj => (h.tg k hk j hj).1
  have rep3 : Rep g S w3 := h1.rep.keep hT' (fun j _ hj => hwn j hj)
  have t4 : Turn (fun j => j = wb) w3 (w3.setCell ⟨wb, k, none⟩ (.slice pa pn pc)) := Turn.setCell (S := fun j => j = wb) (Turn.refl _ w3) (p := ⟨wb, k, none⟩) (fun _ => rfl) _
  have own' : ∀ b', (Value.slice pa pn pc).ownBlock = some b' → (vs k).ownBlock = some b' ∨ b' = (w.alloc (.cells #[.int .u8 (y : Int)] 5)).drew.heap.size := fun b' hb' => by
    rcases hown with q | q
    · left; rw [hv0, ← q]; exact hb'
    · right; rw [q] at hb'; exact (Option.some.inj hb').symm
  have fr : ∀ q, (w.alloc (.cells #[.int .u8 (y : Int)] 5)).drew.heap.size ≤ q → (g.ρ q).1 = 0 := fun q hq => h1.rep.fresh q hq
  have hz := h1.old.size
  refine ⟨a0, n0, k0, pa, pn, pc, w3, hv0, happ, hb3, hT', fun j => if j = k then .slice pa pn pc else vs j, ?_⟩
  have nb : ∀ b', (Value.slice pa pn pc).ownBlock = some b' → b' ≠ wb := fun b' hb' e => by
    rcases own' b' hb' with q | q
    · rw [e] at q; exact h.own_ne k hk q
    · omega
  exact { rep := rep3.keep t4 (fun j _ hj => by rw [hj]; exact h.tw)
          c := h.c
          old := (h1.old.trans (hT'.mono fun j _ hj => (h.tg k hk j hj).2)).trans (t4.mono fun j _ hj => by rw [hj]; exact h.nw)
          tags := h.tags
          blk := by rw [heap_setCell_self _ hb3, wcells_set]
          sl := fun t ht => by
            by_cases e : t = k
            · subst e
              simp only [if_true]
              exact hv'.turn t4 fun b' hb' => nb b' hb'
            · simp only [if_neg e]
              exact ((h1.sl t ht).turn hT' fun b' hb' q => h.ap t k ht hk e b' hb' q).turn t4 fun b' hb' q => h.own_ne t ht (by rw [hb', q])
          ap := fun s t hs ht hst b' hb' => by
            by_cases es : s = k
            · subst es
              simp only [if_true] at hb'
              rw [if_neg (fun q => hst q.symm)]
              rcases own' b' hb' with q | q
              · exact h.ap s t hs ht hst b' q
              · intro e; have := (h1.sl t ht).lt b' e; omega
            · simp only [if_neg es] at hb'
              by_cases et : t = k
              · subst et
                simp only [if_true]
                intro e
                rcases own' b' e with q | q
                · exact h.ap s t hs ht hst b' hb' q
                · have := (h1.sl s hs).lt b' hb'; omega
              · simp only [if_neg et]
                exact h.ap s t hs ht hst b' hb'
          tg := fun t ht b' hb' => by
            by_cases e : t = k
            · subst e
              simp only [if_true] at hb'
              rcases own' b' hb' with q | q
              · exact h.tg t ht b' q
              · exact ⟨fr b' (by omega), by omega⟩
            · simp only [if_neg e] at hb'
              exact h.tg t ht b' hb'
          tw := h.tw, nw := h.nw }
end
end Go.Con
