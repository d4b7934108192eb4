/-
  What comes in, and what the law makes: a slice of ints, the row of the servers.
-/
import Derived.Deep.Slices
import Derived.OpenShut
import Derived.Laws.MakeOwn
import Derived.Test.YtcfegaclbkggpaaRndAwake
namespace Go.Rnd
open Go.Own Go.RowKit Go.Proofs

theorem cell_lt {w : World} {p : Addr} {v : Value} (h : w.cell? p = some v) : p.block < w.heap.size := World.block_lt_of_cell? w _ h

/-- The ints of a row lie where the slice says. -/
def IntsC (w : World) (a : Option Addr) (l : List Int) : Prop := ∀ k x, l[k]? = some x → ∃ b off, a = some ⟨b, off, none⟩ ∧ w.cell? ⟨b, off + k, none⟩ = some (.int .i64 x)

theorem IntsC.turn {w w' : World} {a : Option Addr} {l : List Int} (h : IntsC w a l) (ht : Turn (fun _ => False) w w') : IntsC w' a l := fun k x hk => by
  obtain ⟨b, off, e, c⟩ := h k x hk
  exact ⟨b, off, e, (ht.cell (p := ⟨b, off + k, none⟩) (fun e => e) (cell_lt c)).trans c⟩

theorem ints_of_row {w : World} {a : Option Addr} {len cap : Nat} {zs : List Int}
    (h : (a = none ∧ len = 0 ∧ cap = 0 ∧ zs = []) ∨ ∃ x, a = some x ∧ len ≤ cap ∧ cap ≤ maxLen ∧ zs.length = cap ∧ (∀ i, i < zs.length → w.cell? (x.add i) = some (.int .i64 (zs.getD i 0))) ∧ ∀ n ∈ zs, (Lit.int .i64 n).wf = true) :
    ∃ l : List Int, l.length = len ∧ IntsC w a l ∧ ∀ p ∈ l, (Lit.int .i64 p).wf = true := by
  rcases h with ⟨rfl, rfl, rfl, rfl⟩ | ⟨x, rfl, hl, -, hz, hc, hw⟩
  · exact ⟨[], rfl, fun k x hk => by simp at hk, fun p hp => by cases hp⟩
  · refine ⟨zs.take len, by simp; omega, fun k v hk => ?_, fun p hp => hw p (List.mem_of_mem_take hp)⟩
    rw [List.getElem?_take] at hk
    split at hk
    · rename_i hkl
      have hkz : k < zs.length := by omega
      have h1 := hc k hkz
      have hspot : x.spot = none := by simpa [Addr.add] using World.cell?_spot (hc 0 (by omega))
      obtain ⟨b, off, sp⟩ := x
      simp only at hspot
      subst hspot
      refine ⟨b, off, rfl, ?_⟩
      rw [Addr.add_lit] at h1
      rw [h1, List.getD_eq_getElem?_getD, hk]; rfl
    · cases hk

theorem elemServer : Elem Try.prog 34 3 56 (.agg #[.slice none 0 0, .slice none 0 0, .int .i64 0]) := Elem.mk' (by kernel_rfl) rfl (by decide)

def zsv : Array Value := #[.slice none 0 0, .slice none 0 0, .int .i64 0]
def svCells (n : Nat) : Array Value := madeCells zsv (n * 3)
theorem svCells_size (n : Nat) : (svCells n).size = n * 3 := by simp [svCells, size_madeCells]
theorem svCells_get (n i c : Nat) (hi : i < n) (hc : c < 3) : (svCells n)[i * 3 + c]? = some (zsv[c]!) := by
  have hlt : i * 3 + c < n * 3 := by omega
  have e : (i * 3 + c) % 3 = c := by omega
  rw [Array.getElem?_eq_getElem (by rw [svCells_size]; exact hlt)]
  congr 1
  simp only [svCells, madeCells, Array.getElem_map, Array.getElem_range]
  rw [show zsv.size = 3 from rfl, e]

theorem make_servers (n : Nat) (hn : n ≤ 1000) (w : World) :
    (Instr.makeSlice 32 (.int .i64 n) (.int .i64 n)).run Try.prog w = .ok (.slice (some ⟨w.heap.size, 0, none⟩) n n) (w.alloc (.cells (svCells n) 34)) := by
  obtain ⟨⟨i, hi, hz, h1, h2⟩, -, -⟩ := elemServer
  rw [Go.run_make (P := Try.prog) w 32 34 i _ Try.underlying32 hi hz .i64 .i64 n n (by omega) (by omega) (by rw [h2]; omega) (by omega), h1]
  simp only [Int.toNat_natCast]
  rfl

section
variable {g g' : Gh} {σ σ' : Tags} {w0 w w' : World} {K : KS}

def sv0 : Nat → SV := fun _ => ⟨[], [], 0⟩
theorem sv_start (R : Rep g K w) (n : Nat) : ∃ σ, Sv g σ w.heap.size n sv0 (w.alloc (.cells (svCells n) 34)) ∧ ∀ k, k < w.heap.size → (σ k).1 = 0 := by
  refine ⟨fun b => if b = w.heap.size then (1, 0) else (0, 0), ⟨⟨svCells n, heap_alloc_new w _, svCells_size n, fun i hi => ?_⟩, if_pos rfl, fun k hk => ?_, fun k hk => ?_⟩, fun k hk => ?_⟩
  · exact ⟨.slice none 0 0, .slice none 0 0, svCells_get n i 0 hi (by omega), svCells_get n i 1 hi (by omega), svCells_get n i 2 hi (by omega), SliceT.nil _ _ _ _ _, SliceT.nil _ _ _ _ _⟩
  · have : k ≠ w.heap.size := by simp at hk; omega
    simp only [this, if_false]
  · by_cases e : k = w.heap.size
    · subst e; exact R.fresh _ (Nat.le_refl _)
    · simp only [e, if_false] at hk; exact absurd rfl hk
  · have : k ≠ w.heap.size := by omega
    simp only [this, if_false]

theorem young_step2 (hT : Turn (fun _ => False) w0 w) (ho : ∀ k, k < w0.heap.size → (g.ρ k).1 = 0 ∧ (σ k).1 = 0) (hs : Step2 g g' σ σ' w w') : Turn (fun _ => False) w0 w' ∧ ∀ k, k < w0.heap.size → (g'.ρ k).1 = 0 ∧ (σ' k).1 = 0 := by
  have h0 := hT.size
  refine ⟨⟨hs.turn.os.trans hT.os, hs.turn.tape.trans hT.tape, hs.turn.output.trans hT.output, Nat.le_trans h0 hs.turn.size, fun i hi _ => ?_⟩, fun k hk => by rw [hs.tg k (by omega), hs.ts k (by omega)]; exact ho k hk⟩
  rw [hs.turn.block i (by omega) (fun e => by have := ho i hi; omega)]
  exact hT.block i hi (fun e => e)
end

/-- The first k tasks are made. -/
structure Made (l : List Int) (k : Nat) (K : KS) : Prop where
  n : K.n = k
  m : K.m = 0
  c : K.c = k
  v : K.v = 0
  ok : K.Ok
  ts : ∀ i, 1 ≤ i → i ≤ k → ∃ p, l[i - 1]? = some p ∧ K.ts i = ⟨p, false, []⟩

theorem Made.start (l : List Int) : Made l 0 KS.new := ⟨rfl, rfl, rfl, rfl, KS.Ok.new, fun i h1 h2 => by omega⟩

/-- The priorities ahead of k are what they may be, none twice. -/
def Fine (l : List Int) (k : Nat) : Prop := (∀ i, i < k → ∀ p, l[i]? = some p → 1 ≤ p ∧ p ≤ 1000) ∧ ∀ i j, i < k → j < i → ∀ p q, l[i]? = some p → l[j]? = some q → p ≠ q

theorem Fine.more {l : List Int} {k : Nat} {p : Int} (h : Fine l k) (hp : l[k]? = some p) (h1 : 1 ≤ p) (h2 : p ≤ 1000) (hne : ∀ j, j < k → ∀ q, l[j]? = some q → p ≠ q) : Fine l (k + 1) := by
  refine ⟨fun i hi q hq => ?_, fun i j hi hj a b ha hb => ?_⟩
  · by_cases e : i = k
    · subst e; rw [hp] at hq; cases hq; exact ⟨h1, h2⟩
    · exact h.1 i (by omega) q hq
  · by_cases e : i = k
    · subst e; rw [hp] at ha; cases ha; exact hne j hj b hb
    · exact h.2 i j (by omega) hj a b ha hb

theorem Made.more {l : List Int} {k : Nat} {K : KS} {p : Int} (h : Made l k K) (hf : Fine l l.length) (hp : l[k]? = some p) : 1 ≤ p ∧ p ≤ 1000 ∧ (∀ i, 1 ≤ i → i ≤ K.n → (K.ts i).pri ≠ p) ∧ Made l (k + 1) (K.tick.add p) := by
  have hk : k < l.length := (List.getElem?_eq_some_iff.1 hp).1
  obtain ⟨p1, p2⟩ := hf.1 k hk p hp
  have hne : ∀ i, 1 ≤ i → i ≤ K.n → (K.ts i).pri ≠ p := fun i i1 i2 => by
    obtain ⟨q, hq, e⟩ := h.ts i i1 (by have := h.n; omega)
    rw [e]
    exact (hf.2 k (i - 1) hk (by have := h.n; omega) p q hp hq).symm
  refine ⟨p1, p2, hne, ⟨?_, h.m, ?_, h.v, h.ok.add p1 p2 hne, fun i i1 i2 => ?_⟩⟩
  · show K.n + 1 = k + 1
    rw [h.n]
  · show K.c + 1 = k + 1
    rw [h.c]
  · have hn := h.n
    by_cases e : i = K.n + 1
    · subst e
      refine ⟨p, ?_, updN_self _ _ _⟩
      rw [show K.n + 1 - 1 = k by omega]
      exact hp
    · obtain ⟨q, hq, e'⟩ := h.ts i i1 (by omega)
      exact ⟨q, hq, by simp only [KS.add, KS.tick, updN_ne _ _ e]; exact e'⟩

theorem Made.best {l : List Int} {k t : Nat} {K : KS} (h : Made l k K) (hb : K.Best t) : t = 0 → K.n = 0 := by
  intro ht
  rcases hb with ⟨-, h2⟩ | ⟨h1, -⟩
  · by_cases e : K.n = 0
    · exact e
    · have := h2 1 (Nat.le_refl _) (by omega)
      obtain ⟨p, -, e2⟩ := h.ts 1 (Nat.le_refl _) (by have := h.n; omega)
      rw [e2] at this
      cases this
  · omega

theorem Made.q {l : List Int} {k : Nat} {K : KS} (h : Made l k K) : ∀ i, 1 ≤ i → i ≤ K.n → (K.ts i).q.length ≤ 1000 := fun i i1 i2 => by
  obtain ⟨p, -, e⟩ := h.ts i i1 (by have := h.n; omega)
  rw [e]
  simp

theorem Made.inv {l : List Int} {n P : Nat} {K : KS} (h : Made l n K) (h2 : 2 ≤ n) : Inv n P K sv0 (fun _ => 0) (fun _ => 0) 0 := by
  have hts : ∀ t, 1 ≤ t → t ≤ n → (K.ts t).q = [] ∧ (K.ts t).wt = false := fun t t1 t2 => by
    obtain ⟨p, -, e⟩ := h.ts t t1 t2
    rw [e]
    exact ⟨rfl, rfl⟩
  have hsrc : ∀ t, src (fun _ => 0) 0 t = 0 := fun t => by unfold src; split <;> rfl
  exact { kn := h.n, n2 := h2, km := h.m, mP := Nat.zero_le _, took := fun _ _ => rfl, made0 := rfl, made := fun _ _ => rfl
          q := fun t t1 t2 => by
            obtain ⟨n1, n2⟩ := nx_in t1 t2
            exact ⟨by rw [(hts _ n1 n2).1]; rfl, Nat.le_refl _⟩
          sends := fun i hi => ⟨by rw [hsrc]; rfl, Nat.zero_le _, by rw [hsrc]; omega⟩
          at_ := fun t t1 t2 p hp => by rw [(hts t t1 t2).1] at hp; cases hp
          wth := fun i hi p hp => by cases hp
          wait := fun t t1 t2 hw => by rw [(hts t t1 t2).2] at hw; cases hw }

theorem bound_steps {n P : Nat} : 3 * (n * P) + P + n ≤ 10 * (P + 2) * (n + 1) := by
  have e : 10 * (P + 2) * (n + 1) = 10 * (n * P) + 10 * P + 20 * n + 20 := by
    have e1 : P * (n + 1) = n * P + P := by rw [Nat.mul_add, Nat.mul_comm, Nat.mul_one]
    rw [Nat.mul_assoc, Nat.add_mul, e1]
    omega
  omega
end Go.Rnd
