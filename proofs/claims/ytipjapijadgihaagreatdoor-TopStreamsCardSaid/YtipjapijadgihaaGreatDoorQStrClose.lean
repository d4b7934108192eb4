/-
  Close, walked: a reader, a writer, a pipe's ends.
-/
import Derived.Defers
import Derived.Test.YtipjapijadgihaaGreatDoorQStrRead
set_option linter.unusedVariables false

namespace Go.Str
open Go.Own Go.RowKit Go.Proofs

section
variable {g g' : Gh} {S : SS} {w w' : World}

/-- A handle is gone. -/
theorem Rep.remove (h : Rep g S w) {i : Int} (ht : Turn (fun k => k = g.hm) w w') (hm : MapS w' g.hm (upd (kh g S.handles) i none)) :
    Rep g { S with handles := upd S.handles i none } w' ∧ Step g g w w' := by
  have hs : Same g g w w' (fun t => t = (1, 4)) := ⟨fun k hk hd => ht.block k hk (fun e => hd (by rw [e, h.base.th])), fun _ _ _ => rfl⟩
  refine ⟨⟨h.base.same hs (by simp) (fun _ _ _ => rfl) (fun t h0 e => by rw [e] at h0; cases h0) (fun k hk => h.base.fresh k (by have := ht.size; omega)) ⟨rfl, rfl, rfl, rfl, rfl⟩, h.files.same hs h.base.tf (by simp) (by simp) rfl rfl, h.pipes.same hs h.base.tp (by simp) (by simp) (by simp) rfl rfl,
    assigns_same h.assigns hs h.base.ta (by simp) rfl, ⟨?_, fun j y hy => ?_⟩, fun j nm r hj => ?_⟩, ⟨ht.mono fun k _ e => by rw [e, h.base.th]; decide, fun _ _ => Iff.rfl, rfl⟩⟩
  · have : kh g (upd S.handles i none) = upd (kh g S.handles) i none := by
      funext j
      unfold kh
      by_cases e : j = i
      · subst e; rw [upd_self, upd_self]; rfl
      · rw [upd_ne _ _ e, upd_ne _ _ e]
    rw [this]
    exact hm
  · have hy' : upd S.handles i none j = some y := hy
    by_cases e : j = i
    · subst e; rw [upd_self] at hy'; cases hy'
    · rw [upd_ne _ _ e] at hy'
      obtain ⟨a1, a2, a3⟩ := h.handles.hd j y hy'
      exact ⟨a1, a2.same hs a1 (by simp) (by simp) (by simp) rfl (fun _ _ _ => rfl), a3⟩
  · have hy' : upd S.handles i none j = some (.en nm r) := hj
    by_cases e : j = i
    · subst e; rw [upd_self] at hy'; cases hy'
    · rw [upd_ne _ _ e] at hy'
      exact h.ends j nm r hy'

/-- A file is there. -/
theorem Rep.add_file (h : Rep g S w) {i : Int} {path b : Bytes} {v : Value} (hi : S.handles i = none) (hv : SliceT g.ρ (3, i) w v (bcells b)) (ht : Turn (fun k => k = g.fm) w w') (hm : MapST w' g.fm (updT (kf g S.files) (bs path) (some v))) :
    Rep { g with fv := updB g.fv path v, ρ := fun k => if g.ρ k = (3, i) then (4, 0) else g.ρ k } { S with files := updB S.files path (some b) } w' ∧ Step g { g with fv := updB g.fv path v, ρ := fun k => if g.ρ k = (3, i) then (4, 0) else g.ρ k } w w' := by
  have hs : Same g { g with fv := updB g.fv path v, ρ := fun k => if g.ρ k = (3, i) then (4, 0) else g.ρ k } w w' (fun t => t = (1, 1) ∨ t = (3, i)) :=
    ⟨fun k hk hd => ht.block k hk (fun e => hd (.inl (by rw [e, h.base.tf]))), fun k hk hd => if_neg (fun e => hd (.inr e))⟩
  have hρ : ∀ k, g.ρ k ≠ (3, i) → (if g.ρ k = (3, i) then ((4, 0) : Tag) else g.ρ k) = g.ρ k := fun k e => if_neg e
  have hv' : SliceT (fun k => if g.ρ k = (3, i) then ((4, 0) : Tag) else g.ρ k) (4, 0) w' v (bcells b) := by
    refine ⟨hv.1.turn ht (fun k hk e => ?_), fun k hk => ?_⟩
    · have := hv.2 k hk
      rw [e, h.base.tf] at this
      cases this
    · dsimp only
      rw [if_pos (hv.2 k hk)]
  refine ⟨⟨?_, ⟨?_, fun p c hp => ?_⟩, h.pipes.same hs h.base.tp (by simp) (by simp) (by simp) rfl rfl, assigns_same h.assigns hs h.base.ta (by simp) rfl, h.handles.same hs h.base.th (by simp) (fun j hj => ⟨by simp, ?_⟩) (by simp) rfl (fun _ _ => rfl) (fun _ _ _ _ => rfl), h.ends⟩, ⟨ht.mono fun k _ e => by rw [e, h.base.tf]; decide, fun k hk => ?_, rfl⟩⟩
  · have ef : ∀ {b : Nat} {t : Tag}, g.ρ b = t → t.1 = 1 → (if g.ρ b = (3, i) then ((4, 0) : Tag) else g.ρ b) = t := fun {b t} e e1 => by rw [hρ _ (fun e2 => by rw [e] at e2; rw [e2] at e1; simp at e1), e]
    have hz := ht.size
    have hb0 : w'.heap[0]? = w.heap[0]? := ht.block 0 h.base.env_lt (fun e => by have t0 := h.base.e0; have t1 := h.base.tf; rw [← e] at t1; rw [t1] at t0; cases t0)
    refine ⟨by rw [← h.base.sb]; exact ht.block _ (heap_lt h.base.sb) (fun e => by have := h.base.ts; rw [e, h.base.tf] at this; simp at this), ef h.base.ts rfl, ef h.base.tf rfl, ef h.base.tp rfl, ef h.base.ta rfl, ef h.base.th rfl, fun k hk => ?_, ?_, ?_⟩
    · have := h.base.fresh k (by omega)
      dsimp only
      rw [hρ _ (fun e => by rw [e] at this; cases this)]
      exact this
    · obtain ⟨m, hm⟩ := h.base.env
      exact ⟨m, by rw [← hm]; simp only [World.cell?, hb0]⟩
    · have := h.base.e0
      dsimp only
      rw [hρ _ (fun e => by rw [e] at this; cases this)]
      exact this
  · have : kf { g with fv := updB g.fv path v, ρ := fun k => if g.ρ k = (3, i) then (4, 0) else g.ρ k } (updB S.files path (some b)) = updT (kf g S.files) (bs path) (some v) := by
      funext k
      by_cases e : k = bs path
      · subst e
        rw [upd_selfT]
        show (updB S.files path _ path).map _ = _
        rw [updB_self]
        show some (updB g.fv path v path) = _
        rw [updB_self]
      · rw [upd_neT _ _ e]
        have e' : k.data.toList ≠ path := fun e2 => e (by rw [← e2])
        show (updB S.files path _ k.data.toList).map (fun _ => updB g.fv path v k.data.toList) = (S.files k.data.toList).map _
        rw [updB_ne _ _ e', updB_ne _ _ e']
    rw [this]
    exact hm
  · have hp' : updB S.files path (some b) p = some c := hp
    by_cases e : p = path
    · subst e
      rw [updB_self] at hp'
      cases hp'
      show SliceT _ (4, 0) w' (updB g.fv p v p) _
      rw [updB_self]
      exact hv'
    · rw [updB_ne _ _ e] at hp'
      show SliceT _ (4, 0) w' (updB g.fv path v p) _
      rw [updB_ne _ _ e]
      exact (h.files.file p c hp').same hs (by simp)
  · intro e
    rcases e with e | e
    · cases e
    · have : j = i := congrArg Prod.snd e
      rw [this] at hj
      exact hj hi
  · dsimp only
    by_cases e : g.ρ k = (3, i)
    · rw [if_pos e, e]; simp
    · rw [if_neg e]

/-- A pipe is gone. -/
theorem Rep.rm_pipe (h : Rep g S w) {name : Bytes} {x : Pp} (hx : S.pipes name = some x) (hno : ∀ j r, S.handles j ≠ some (.en name r)) (ht : Turn (fun k => k = g.pm) w w') (hm : MapST w' g.pm (updT (kp g S.pipes) (bs name) none)) :
    Rep g { S with pipes := updB S.pipes name none } w' ∧ Step g g w w' := by
  have hs : Same g g w w' (fun t => t = (1, 2)) := ⟨fun k hk hd => ht.block k hk (fun e => hd (by rw [e, h.base.tp])), fun _ _ _ => rfl⟩
  have hnone : ∀ q y, updB S.pipes name none q = some y → False := fun q y hq => by
    by_cases e : q = name
    · subst e; rw [updB_self] at hq; cases hq
    · rw [updB_ne _ _ e] at hq
      exact e (h.pipes.one q name y x hq hx)
  refine ⟨⟨h.base.same hs (by simp) (fun _ _ _ => rfl) (fun t h0 e => by rw [e] at h0; cases h0) (fun k hk => h.base.fresh k (by have := ht.size; omega)) ⟨rfl, rfl, rfl, rfl, rfl⟩, h.files.same hs h.base.tf (by simp) (by simp) rfl rfl, ⟨?_, fun q y hq => (hnone q y hq).elim, fun p q y z hp hq => (hnone p y hp).elim⟩,
    assigns_same h.assigns hs h.base.ta (by simp) rfl, h.handles.same hs h.base.th (by simp) (fun j _ => ⟨by simp, by simp⟩) (by simp) rfl (fun _ _ => rfl) (fun _ _ _ _ => rfl), fun j nm r hj => ?_⟩, ⟨ht.mono fun k _ e => by rw [e, h.base.tp]; decide, fun _ _ => Iff.rfl, rfl⟩⟩
  · have : kp g (updB S.pipes name none) = updT (kp g S.pipes) (bs name) none := by
      funext k
      by_cases e : k = bs name
      · subst e
        rw [upd_selfT]
        show (updB S.pipes name none name).map _ = _
        rw [updB_self]
        rfl
      · rw [upd_neT _ _ e]
        have e' : k.data.toList ≠ name := fun e2 => e (by rw [← e2])
        show (updB S.pipes name none k.data.toList).map _ = (S.pipes k.data.toList).map _
        rw [updB_ne _ _ e']
    rw [this]
    exact hm
  · obtain ⟨y, hy⟩ := h.ends j nm r hj
    have e := h.pipes.one nm name y x hy hx
    subst e
    exact absurd hj (hno j r)

theorem meth_rd (w : World) (v : Value) : (method 411 131 v "bluebell/stream.close").run Tryz.prog w = .ok (219, v) w := by kernel_rfl
theorem meth_wr (w : World) (v : Value) : (method 411 90 v "bluebell/stream.close").run Tryz.prog w = .ok (216, v) w := by kernel_rfl
theorem meth_en (w : World) (v : Value) : (method 411 100 v "bluebell/stream.close").run Tryz.prog w = .ok (218, v) w := by kernel_rfl
theorem enter_rd : ∀ (args : Array Value) (w : World), (callFunc 219 args).run Tryz.prog w = .ok (.enter 219 args) w := enters_of Tryz.func219 (by kernel_rfl) rfl
theorem enter_wr : ∀ (args : Array Value) (w : World), (callFunc 216 args).run Tryz.prog w = .ok (.enter 216 args) w := enters_of Tryz.func216 (by kernel_rfl) rfl
theorem enter_en : ∀ (args : Array Value) (w : World), (callFunc 218 args).run Tryz.prog w = .ok (.enter 218 args) w := enters_of Tryz.func218 (by kernel_rfl) rfl

theorem rclose_calls (a b : Value) : Calls Tryz.prog 219 #[a, b] w fun e w' => e = .returned (.tuple #[]) ∧ w' = w := by
  go_enter Tryz.func219, Tryz.ntmps219
  go_wp2
  go_end0
  exact ⟨rfl, rfl⟩

/-- A body walked: called, or deferred. -/
def Walked (P : Program) (fn : Func) (args : Array Value) (w : World) (R : Ending → World → Prop) : Prop :=
  ∃ c, fn.body = some c ∧ c.wp P (bodyPost P fn R) { tmps := args ++ Array.replicate (fn.ntmps - args.size) undef, defers := [] } w
theorem Walked.calls {P : Program} {f : FuncId} {fn : Func} {args : Array Value} {R : Ending → World → Prop} (h : Walked P fn args w R) (hf : P.funcs[f]? = some fn) : Calls P f args w R := by
  obtain ⟨c, hb, hw⟩ := h
  exact calls_of_wp hf hb hw
theorem Walked.callsD {P : Program} {f : FuncId} {fn : Func} {args : Array Value} {R : Ending → World → Prop} {u : FrameMode} (h : Walked P fn args w R) (hf : P.funcs[f]? = some fn) : CallsD P f args u w fun e u' w' => u' = u ∧ R e w' := by
  obtain ⟨c, hb, hw⟩ := h
  exact callsD_of_wp hf hb hw

def ClosePost (g : Gh) (S' : SS) (w : World) (e : Ending) (w' : World) : Prop :=
  e = .returned (.int .i64 0) ∧ ∃ g', Rep g' S' w' ∧ Step g g' w w'

set_option maxRecDepth 10000 in
set_option maxHeartbeats 4000000 in
theorem close_rd_w (h : Rep g S w) {sb : Nat} (hs : g.s = sb) {i : Int} {path b : Bytes} (hx : S.handles i = some (.rd path b)) (hl : S.last ≤ 1000) :
    Walked Tryz.prog Tryz.f11 #[pt sb, .int .i64 i] w (ClosePost g { S with handles := upd S.handles i none } w) := by
  subst hs
  obtain ⟨-, -, -, c3, -, -⟩ := s_cells h.base.sb
  have hlk := h.lookup_handle hx hl
  obtain ⟨-, -, l1, l2⟩ := h.handles.hd i _ hx
  simp only [hval] at hlk
  have H := Lib.hid h
  have hmt := meth_rd
  have hen := enter_rd
  clear h hx
  refine ⟨_, rfl, ?_⟩
  simp only [Tryz.ntmps11, List.size_toArray, List.length_cons, List.length_nil, Nat.reduceAdd, Nat.reduceSub, Array.replicate_succ,
    Array.replicate_zero, List.push_toArray, List.append_toArray, List.nil_append, List.cons_append]
  go_wp2_with (refine wpList_deleteS rfl _ _ rfl Tryz.underlying3 Tryz.underlying78 rfl H.out.handles.m rfl (wf_i64 (by omega) (by omega)) ?_; intro w1 hm1 ht1 hz1; have HM := Lib.hid (And.intro hm1 (And.intro ht1 hz1)); clear hm1 ht1 hz1)
  refine (rclose_calls _ _).mono ?_
  rintro e1 w2 ⟨rfl, rfl⟩
  go_wp2_with fail
  go_ret
  obtain ⟨h1, h2⟩ := H.out.remove HM.out.2.1 HM.out.1
  exact ⟨rfl, g, h1, h2⟩
theorem close_rd (h : Rep g S w) {sb : Nat} (hs : g.s = sb) {i : Int} {path b : Bytes} (hx : S.handles i = some (.rd path b)) (hl : S.last ≤ 1000) :
    Calls Tryz.prog 11 #[pt sb, .int .i64 i] w (ClosePost g { S with handles := upd S.handles i none } w) :=
  (close_rd_w h hs hx hl).calls Tryz.func11

end
end Go.Str
