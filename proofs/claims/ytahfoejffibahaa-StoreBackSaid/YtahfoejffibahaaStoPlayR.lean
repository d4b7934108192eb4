/-
  The two appends of a round of Play, in any order: what holds at each stage.
-/
import Derived.Test.YtahfoejffibahaaStoDoPut
import Derived.Test.YtahfoejffibahaaOwnRegionH
namespace Go.Sto
open Go.Own Go.RowKit Go.Proofs

def New1 (m : Lab) (x : Nat) (w : World) (v : Value) (d : Int) : Prop := ∃ n, v = .slice (some ⟨n, 0, none⟩) 1 1 ∧ w.heap[n]? = some (.cells #[.int .i64 d] 3 (0, 0)) ∧ m n = x

theorem New1.keep {m m' : Lab} {x : Nat} {w w' : World} {v : Value} {d : Int} (h : New1 m x w v d) (hb : ∀ k, k < w.heap.size → m k = x → w'.heap[k]? = w.heap[k]?) (hm : ∀ k, k < w.heap.size → m' k = m k) : New1 m' x w' v d := by
  obtain ⟨n, h1, h2, h3⟩ := h
  have hl := heap_lt h2
  exact ⟨n, h1, by rw [hb n hl h3]; exact h2, by rw [hm n hl]; exact h3⟩

structure RI (w0 : World) (g : Ghost) (pb : Nat) (S : St) (gv tv lv : Value) (gave took live : List Int) (d e : Int) (f7 f15 f8 f16 f19 f22 : Bool) (ξ : Nat → Value) (w : World) (m : Lab) : Prop where
  pm : PM w0 g pb S m (bif f19 then ξ 8 else gv) (bif f22 then ξ 16 else tv) lv (bif f8 then ξ 8 else gv) (bif f16 then ξ 16 else tv) lv (bif f8 then gave ++ [d] else gave) (bif f16 then took ++ [e] else took) live w
  n7 : (f7 && !f8) = true → New1 m 5 w (ξ 7) d
  n15 : (f15 && !f16) = true → New1 m 6 w (ξ 15) e

section
variable {w0 w : World} {g : Ghost} {pb : Nat} {S : St} {gv tv lv : Value} {gave took live : List Int} {d e : Int} {f7 f15 f8 f16 f19 f22 : Bool} {ξ : Nat → Value} {m : Lab}

theorem RI.start (h : PM w0 g pb S m gv tv lv gv tv lv gave took live w) (ξ : Nat → Value) : RI w0 g pb S gv tv lv gave took live d e false false false false false false ξ w m :=
  ⟨h, (fun q => by cases q), (fun q => by cases q)⟩

theorem RI.mk7 (h : RI w0 g pb S gv tv lv gave took live d e f7 f15 false f16 false f22 ξ w m) : ∃ m', RI w0 g pb S gv tv lv gave took live d e true f15 false f16 false f22 (updV ξ 7 (.slice (some ⟨w.heap.size, 0, none⟩) 1 1)) (w.alloc (.cells #[.int .i64 d] 3)) m' := by
  have hp := h.pm
  have ht : Turn (fun k => m k = 5 ∨ w.heap.size ≤ k) w (w.alloc (.cells #[.int .i64 d] 3)) := (Turn.refl _ w).alloc _
  refine ⟨_, hp.turn 5 (by decide) ht (hp.pb_keep 5 (by decide) ht) (.inl ⟨by decide, rfl, rfl⟩) (.inl ⟨by decide, rfl, rfl⟩) (.inl ⟨by decide, rfl, rfl⟩), fun _ => ⟨_, rfl, heap_alloc_new w _, relab_new m (Nat.le_refl _) (by simp)⟩, fun q => (h.n15 q).keep (fun k hk _ => heap_alloc_lt w _ k hk) (fun k hk => relab_old m hk)⟩

theorem RI.mk15 (h : RI w0 g pb S gv tv lv gave took live d e f7 f15 f8 false f19 false ξ w m) : ∃ m', RI w0 g pb S gv tv lv gave took live d e f7 true f8 false f19 false (updV ξ 15 (.slice (some ⟨w.heap.size, 0, none⟩) 1 1)) (w.alloc (.cells #[.int .i64 e] 3)) m' := by
  have hp := h.pm
  have ht : Turn (fun k => m k = 6 ∨ w.heap.size ≤ k) w (w.alloc (.cells #[.int .i64 e] 3)) := (Turn.refl _ w).alloc _
  refine ⟨_, hp.turn 6 (by decide) ht (hp.pb_keep 6 (by decide) ht) (.inl ⟨by decide, rfl, rfl⟩) (.inl ⟨by decide, rfl, rfl⟩) (.inl ⟨by decide, rfl, rfl⟩), fun q => (h.n7 q).keep (fun k hk _ => heap_alloc_lt w _ k hk) (fun k hk => relab_old m hk), fun _ => ⟨_, rfl, heap_alloc_new w _, relab_new m (Nat.le_refl _) (by simp)⟩⟩

theorem one_bytes {l : List Int} (hl : l.length ≤ 1000) (x : Int) : ((icells l).length + [Value.int .i64 x].length) * 8 ≤ 140737488355328 * 1 ∧ (icells l).length + [Value.int .i64 x].length ≤ 1152921504606846976 := by
  have : (icells l).length = l.length := by simp [icells]
  rw [this]
  simp only [List.length_cons, List.length_nil]
  omega

theorem RI.app8 (h : RI w0 g pb S gv tv lv gave took live d e true f15 false f16 false f22 ξ w m) (hl : gave.length ≤ 1000) (ty : TypeId) :
    ∃ v' w', (Builtin.append_ #[24, 24] ty #[gv, ξ 7]).run Try.prog w = .ok v' w' ∧ ∃ m', RI w0 g pb S gv tv lv gave took live d e true f15 true f16 false f22 (updV ξ 8 v') w' m' := by
  have hp := h.pm
  obtain ⟨n, hv, hn, hm⟩ := h.n7 rfl
  obtain ⟨b1, b2⟩ := one_bytes hl d
  obtain ⟨v', w', hr, hs, ht, hw, -⟩ := run_append (P := Try.prog) w 24 24 ty 3 1 8 (.int .i64 0) Try.underlying24 (.inr ⟨_, Try.underlying24⟩) elemInt gv (icells gave) hp.gs.1 (ξ 7) 1 [.int .i64 d] (by rw [hv]; exact Src.one rfl hn) (by simp [Value.oneCell']) b1 b2
  have hs' : SliceAt w' 3 1 v' (icells (gave ++ [d])) := by rw [show icells (gave ++ [d]) = icells gave ++ [Value.int .i64 d] by simp [icells]]; exact hs
  refine ⟨v', w', hr, _, hp.app_g ht hs' hw, (fun q => by cases q), fun q => (h.n15 q).keep (fun k hk hx => ht.block k hk fun hh => ?_) (fun k hk => relab_old m hk)⟩
  have : m k = 2 := hp.gs.2 k hh
  omega

theorem RI.app16 (h : RI w0 g pb S gv tv lv gave took live d e f7 true f8 false f19 false ξ w m) (hl : took.length ≤ 1000) (ty : TypeId) :
    ∃ v' w', (Builtin.append_ #[24, 24] ty #[tv, ξ 15]).run Try.prog w = .ok v' w' ∧ ∃ m', RI w0 g pb S gv tv lv gave took live d e f7 true f8 true f19 false (updV ξ 16 v') w' m' := by
  have hp := h.pm
  obtain ⟨n, hv, hn, hm⟩ := h.n15 rfl
  obtain ⟨b1, b2⟩ := one_bytes hl e
  obtain ⟨v', w', hr, hs, ht, hw, -⟩ := run_append (P := Try.prog) w 24 24 ty 3 1 8 (.int .i64 0) Try.underlying24 (.inr ⟨_, Try.underlying24⟩) elemInt tv (icells took) hp.ts.1 (ξ 15) 1 [.int .i64 e] (by rw [hv]; exact Src.one rfl hn) (by simp [Value.oneCell']) b1 b2
  have hs' : SliceAt w' 3 1 v' (icells (took ++ [e])) := by rw [show icells (took ++ [e]) = icells took ++ [Value.int .i64 e] by simp [icells]]; exact hs
  refine ⟨v', w', hr, _, hp.app_t ht hs' hw, fun q => (h.n7 q).keep (fun k hk hx => ht.block k hk fun hh => ?_) (fun k hk => relab_old m hk), (fun q => by cases q)⟩
  have : m k = 3 := hp.ts.2 k hh
  omega

theorem RI.sto19 (h : RI w0 g pb S gv tv lv gave took live d e true true true true false false ξ w m) : ∃ m', RI w0 g pb S gv tv lv gave took live d e true true true true true false ξ (w.setCell ⟨pb, 1, none⟩ (ξ 8)) m' := by
  obtain ⟨m', h'⟩ := h.pm.sto 1 (ξ 8) rfl
  exact ⟨m', h', (fun q => by cases q), (fun q => by cases q)⟩
theorem RI.sto22 (h : RI w0 g pb S gv tv lv gave took live d e true true true true true false ξ w m) : ∃ m', RI w0 g pb S gv tv lv gave took live d e true true true true true true ξ (w.setCell ⟨pb, 2, none⟩ (ξ 16)) m' := by
  obtain ⟨m', h'⟩ := h.pm.sto 2 (ξ 16) rfl
  exact ⟨m', h', (fun q => by cases q), (fun q => by cases q)⟩

theorem RI.load5 (h : RI w0 g pb S gv tv lv gave took live d e f7 f15 f8 f16 false f22 ξ w m) : w.cell? ⟨pb, 1, none⟩ = some gv := cell_at h.pm.blk rfl
theorem RI.load12 (h : RI w0 g pb S gv tv lv gave took live d e f7 f15 f8 f16 f19 false ξ w m) : w.cell? ⟨pb, 2, none⟩ = some tv := cell_at h.pm.blk rfl
theorem RI.load5' (h : RI w0 g pb S gv tv lv gave took live d e f7 f15 f8 f16 f19 f22 ξ w m) : ∃ v, w.cell? ⟨pb, 1, none⟩ = some v := ⟨_, cell_at h.pm.blk rfl⟩
theorem RI.load12' (h : RI w0 g pb S gv tv lv gave took live d e f7 f15 f8 f16 f19 f22 ξ w m) : ∃ v, w.cell? ⟨pb, 2, none⟩ = some v := ⟨_, cell_at h.pm.blk rfl⟩
theorem RI.old (h : RI w0 g pb S gv tv lv gave took live d e f7 f15 f8 f16 f19 f22 ξ w m) (i : Nat) : w.frozen? ⟨pb, i, none⟩ = false := frozen_at h.pm.blk

/-- The stages of the region. -/
def RS (w0 : World) (g : Ghost) (pb : Nat) (S : St) (gv tv lv : Value) (gave took live : List Int) (d e : Int) (s : Nat) (ξ : Nat → Value) (w : World) : Prop :=
  ∃ m, match s with
    | 0 => RI w0 g pb S gv tv lv gave took live d e false false false false false false ξ w m
    | 1 => RI w0 g pb S gv tv lv gave took live d e true false false false false false ξ w m
    | 2 => RI w0 g pb S gv tv lv gave took live d e false true false false false false ξ w m
    | 3 => RI w0 g pb S gv tv lv gave took live d e true false true false false false ξ w m
    | 4 => RI w0 g pb S gv tv lv gave took live d e true true false false false false ξ w m
    | 5 => RI w0 g pb S gv tv lv gave took live d e true true true false false false ξ w m
    | 6 => RI w0 g pb S gv tv lv gave took live d e true true true true false false ξ w m
    | 7 => RI w0 g pb S gv tv lv gave took live d e true true true true true false ξ w m
    | _ => RI w0 g pb S gv tv lv gave took live d e true true true true true true ξ w m
end
end Go.Sto
