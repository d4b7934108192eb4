/-
  Files, walked: three files that hold the same bytes.
-/
import Derived.Test.YtipjapijadgihaaGreatDoorQStrFile
set_option linter.unusedVariables false

namespace Go.Str
open Go.Own Go.RowKit Go.Proofs

theorem _root_.Go.Own.Src.block {w : World} {sz m g c : Nat} {cur : Array Value} {e : TypeId} {fr : Nat × Nat} (h : w.heap[g]? = some (.cells cur e fr)) (hs : cur.toList.length = m * sz) : Src w sz (.slice (some ⟨g, 0, none⟩) m c) m cur.toList := by
  refine Src.slice _ _ _ _ hs fun j u hu => ?_
  rw [Addr.add_lit]
  exact cell_at h (by simpa using hu)

/-- What turned is younger than the first world. -/
theorem _root_.Go.Own.Turn.young {S : Nat → Prop} {a b c : World} (h : Turn (fun _ => False) a b) (k : Turn S b c) (hS : ∀ i, S i → a.heap.size ≤ i) : Turn (fun _ => False) a c :=
  ⟨k.os.trans h.os, k.tape.trans h.tape, k.output.trans h.output, Nat.le_trans h.size k.size, fun i hi _ => by
    rw [k.block i (Nat.lt_of_lt_of_le hi h.size) (fun hs => by have := hS i hs; omega)]
    exact h.block i hi (fun e => e)⟩

section
variable {g : Gh} {S : SS} {w w' : World} {b : Bytes}

theorem kf_some {k : ByteArray} {v : Value} (h : kf g (F3 b) k = some v) : ∃ i : Fin 3, k = bs (nameF i) ∧ v = g.fv (nameF i) ∧ F3 b (nameF i) = some b := by
  have hb := bs_of k
  unfold kf at h
  generalize k.data.toList = q at *
  by_cases e3 : q = nThree
  · subst e3
    exact ⟨2, hb.symm, by unfold F3 at h; rw [updB_self] at h; exact (Option.some.inj h).symm, updB_self _ _ _⟩
  · unfold F3 at h
    rw [updB_ne _ _ e3] at h
    by_cases e2 : q = nSub
    · subst e2
      exact ⟨1, hb.symm, by unfold F2 at h; rw [updB_self] at h; exact (Option.some.inj h).symm, by unfold F3; rw [updB_ne _ _ (by decide)]; exact updB_self _ _ _⟩
    · unfold F2 at h
      rw [updB_ne _ _ e2] at h
      by_cases e1 : q = nOne
      · subst e1
        exact ⟨0, hb.symm, by unfold F1 at h; rw [updB_self] at h; exact (Option.some.inj h).symm, by unfold F3; rw [updB_ne _ _ (by decide)]; unfold F2; rw [updB_ne _ _ (by decide)]; exact updB_self _ _ _⟩
      · unfold F1 at h
        rw [updB_ne _ _ e1] at h
        cases h
theorem kf_name (i : Fin 3) : (kf g (F3 b) (bs (nameF i))).isSome = true := by
  have hi : i = 0 ∨ i = 1 ∨ i = 2 := by revert i; decide
  rcases hi with rfl | rfl | rfl
  · show (Option.map _ (F3 b nOne)).isSome = true
    unfold F3; rw [updB_ne _ _ (by decide)]; unfold F2; rw [updB_ne _ _ (by decide)]; unfold F1; rw [updB_self]; rfl
  · show (Option.map _ (F3 b nSub)).isSome = true
    unfold F3; rw [updB_ne _ _ (by decide)]; unfold F2; rw [updB_self]; rfl
  · show (Option.map _ (F3 b nThree)).isSome = true
    unfold F3; rw [updB_self]; rfl
theorem name_inj {i j : Fin 3} (h : bs (nameF i) = bs (nameF j)) : i = j := by
  have h := bs_inj h
  revert i j
  decide

set_option maxRecDepth 10000 in
set_option maxHeartbeats 1000000 in
theorem bclone_calls {v : Value} {b : Bytes} (h : SliceAt w 5 1 v (bcells b)) (hl : b.length ≤ 100000) : Calls Tryz.prog 41 #[v] w (ClonePost w b) := by
  have H := Lib.hid (And.intro h hl)
  have h0 := h
  rcases h with ⟨rfl, hb⟩ | ⟨g, off, n, cap, cur, rfl, hg, hlen, hn, hm, hz, hx⟩
  · clear h0 hl
    have q := run_eql_nil w none 0 0
    go_enter Tryz.func41, Tryz.ntmps41
    go_wp2
    go_ret
    exact ⟨_, rfl, H.out.1, Turn.refl _ _, fun k hk => by simp [Value.ownBlock] at hk⟩
  · have hs : Src (w.alloc (.cells #[] 5)) 1 (.slice (some ⟨g, off, none⟩) n cap) n (bcells b) := Src.of_slice (h0.turn ((Turn.refl (fun _ => False) w).alloc _) (fun _ _ e => e))
    have HS := Lib.hid hs
    clear hs h0 hl hg hlen hn hm hz hx
    have hE : SliceAt (w.alloc (.cells #[] 5)) 5 1 (.slice (some ⟨w.heap.size, 0, none⟩) 0 0) [] := SliceAt.made (cur := #[]) (heap_alloc_new w _) rfl (Nat.zero_le _)
    have HE := Lib.hid hE
    clear hE
    have q := run_eql_nil w (some ⟨g, off, none⟩) n cap
    go_enter Tryz.func41, Tryz.ntmps41
    go_wp2_with (at_builtin; refine wpList_append _ rfl _ _ 30 30 rfl 5 1 1 (.int .u8 0) Tryz.underlying30 (.inr ⟨_, Tryz.underlying30⟩) elemU8 (.slice (some ⟨w.heap.size, 0, none⟩) 0 0) [] rfl HE.out _ _ _ rfl HS.out (bcells_one b) (by have := H.out.2; simp; omega) (by have := H.out.2; simp; omega) ?_; intro v' w1 hv' ht hw hn; clear hn; obtain ⟨va, vn, vc, rfl, -⟩ := hv'.form; have hF := Lib.hid (And.intro hv' (And.intro ht hw)); clear hv' ht hw)
    go_ret
    have T1 : Turn (fun _ => False) w w1 := by
      have t := hF.out.2.1
      refine ⟨t.os, t.tape, t.output, by have := t.size; simp at this; omega, fun k hk _ => ?_⟩
      rw [t.block k (by simp; omega) (fun e => by simp [Value.ownBlock] at e; omega)]
      exact heap_alloc_lt w _ k hk
    refine ⟨_, rfl, by simpa using hF.out.1, T1, fun k hk0 => ?_⟩
    have hk : (Value.slice va vn vc).ownBlock = some k := hk0
    rcases hF.out.2.2 with e | e
    · rw [e] at hk; simp [Value.ownBlock] at hk; omega
    · rw [e] at hk; simp at hk; omega

theorem nodup_small : ∀ (n : Nat) (l : List Nat), l.Nodup → (∀ x ∈ l, 1 ≤ x ∧ x ≤ n) → l.length ≤ n
  | 0, l, _, h => by
    cases l with
    | nil => simp
    | cons a l => have := h a (by simp); omega
  | n + 1, l, hn, h => by
    have h1 := nodup_small n (l.filter (fun x => x != n + 1)) (hn.sublist List.filter_sublist) (fun x hx => by
      simp only [List.mem_filter, bne_iff_ne] at hx
      have := h x hx.1
      omega)
    have h2 : l.length ≤ (l.filter (fun x => x != n + 1)).length + 1 := by
      clear h h1
      induction l with
      | nil => simp
      | cons a l ih =>
        obtain ⟨ha, hl⟩ := List.nodup_cons.1 hn
        by_cases e : a = n + 1
        · subst e
          have : l.filter (fun x => x != n + 1) = l := List.filter_eq_self.2 fun x hx => by
            have : x ≠ n + 1 := fun e => ha (e ▸ hx)
            simpa using this
          simp [this]
        · have := ih hl
          rw [List.filter_cons_of_pos (by simpa using e)]
          simp only [List.length_cons]
          omega
    omega

theorem nodup3 {l : List FE} (h : (l.map FE.i).Nodup) : l.length ≤ 3 := by
  have h2 : (l.map fun x => x.i.val + 1).Nodup := by
    rw [List.nodup_iff_pairwise_ne, List.pairwise_map] at h ⊢
    exact h.imp fun hne e => hne (Fin.ext (by omega))
  have := nodup_small 3 _ h2 (fun x hx => by
    obtain ⟨y, hy, rfl⟩ := List.mem_map.1 hx
    have := y.i.isLt
    omega)
  simpa using this

/-- The bytes of an entry. -/
def FD (w0 w : World) (ov : Value) (R : Nat) (b : Bytes) (x : FE) : Prop :=
  SliceAt w 5 1 (.slice x.a x.n x.c) (bcells b) ∧ ∀ k, (Value.slice x.a x.n x.c).ownBlock = some k → w0.heap.size ≤ k ∧ k ≠ R ∧ ov.ownBlock ≠ some k

structure FsI (g : Gh) (b : Bytes) (w0 : World) (R : Nat) (cnt : Nat) (ov : Value) (w : World) : Prop where
  turn : Turn (fun _ => False) w0 w
  hR : w0.heap.size ≤ R
  ex : ∃ (left : ByteArray → Bool) (l : List FE), RangeAtT w g.fm R (kf g (F3 b)) left cnt ∧ SliceAt w 48 2 ov (fcells l) ∧ (∀ k, ov.ownBlock = some k → w0.heap.size ≤ k ∧ k ≠ R) ∧
    (l.map FE.i).Nodup ∧ (∀ x ∈ l, left (bs (nameF x.i)) = false ∧ FD w0 w ov R b x) ∧ (∀ i : Fin 3, left (bs (nameF i)) = false → ∃ x ∈ l, x.i = i)

def FilesPost (b : Bytes) (w : World) (e : Ending) (w' : World) : Prop :=
  ∃ v l, e = .returned v ∧ SliceAt w' 48 2 v (fcells l) ∧ Turn (fun _ => False) w w' ∧ (l.map FE.i).Perm [0, 1, 2] ∧ ∀ x ∈ l, SliceAt w' 5 1 (.slice x.a x.n x.c) (bcells b)

theorem perm3 {l : List FE} (h : (l.map FE.i).Nodup) (hc : ∀ i : Fin 3, ∃ x ∈ l, x.i = i) : (l.map FE.i).Perm [0, 1, 2] := by
  refine (List.perm_ext_iff_of_nodup h (by decide)).2 fun i => ⟨fun _ => ?_, fun _ => ?_⟩
  · have : ∀ j : Fin 3, j ∈ ([0, 1, 2] : List (Fin 3)) := by decide
    exact this i
  · obtain ⟨x, hx, rfl⟩ := hc i
    exact List.mem_map.2 ⟨x, hx, rfl⟩

set_option maxRecDepth 10000 in
set_option maxHeartbeats 2000000 in
theorem files_calls (h : Rep g S w) (hF : S.files = F3 b) (hb : b.length ≤ 2000) {sb : Nat} (hs : g.s = sb) : Calls Tryz.prog 15 #[pt sb] w (FilesPost b w) := by
  subst hs
  obtain ⟨c0, -, -, -, -, -⟩ := s_cells h.base.sb
  have hm := h.files.m
  rw [hF] at hm
  have hfl := h.files.file
  rw [hF] at hfl
  have H := Lib.hid (And.intro h (And.intro hm (And.intro hb hfl)))
  clear h hm hF hb hfl
  go_enter Tryz.func15, Tryz.ntmps15
  go_wp2_with (first
    | (at_range
       refine wpList_rangeST rfl _ rfl Tryz.underlying75 rfl (H.out.2.1) ?_
       intro w0 cnt0 hrg0 ho
       obtain ⟨o1, ho1⟩ := ho
       have hX := Lib.hid (And.intro hrg0 ho1)
       clear hrg0 ho1)
    | go_in)
  go_frame
  have T1 : Turn (fun _ => False) w w0 := by
    rw [hX.out.2]
    exact (Turn.refl (fun _ => False) w).alloc _
  obtain ⟨R, hR⟩ : ∃ R, w.heap.size = R := ⟨_, rfl⟩
  have hst : FsI g b w R cnt0 (.slice none 0 0) w0 := by
    refine ⟨T1, by omega, _, [], hR ▸ hX.out.1, SliceAt.nil _ _ _, fun b hb => by simp [Value.ownBlock] at hb, by simp, by simp, fun i hi => ?_⟩
    rw [kf_name i] at hi
    cases hi
  have HS := Lib.hid (And.intro hst hR)
  rw [hR]
  clear hR c0 T1 hst hX
  go_loopg [3] (cnt0) (fun gk ov wr => FsI g b w R gk ov wr)
  case atStart => exact HS.out.1
  case round =>
    obtain ⟨hT, hRR, left, l, hrg, hs, hb, hnd, hall, hcov⟩ := hrel
    have HX := Lib.hid (And.intro hT (And.intro hRR (And.intro hs (And.intro hb (And.intro hnd (And.intro hall hcov))))))
    obtain ⟨va, vn, vc, rfl, hvl, -⟩ := hs.form
    have HVL := Lib.hid hvl
    clear hT hRR hs hb hnd hall hcov hvl
    go_wp2_with (first
      | (at_next; refine wpList_nextST rfl _ rfl rfl hrg ?_ ?_)
      | go_in)
    · intro hc0 hl0
      have HL := Lib.hid hl0
      clear hl0 hrg
      obtain ⟨x1, hx1, -⟩ := HX.out.2.2.2.2.2.2 0 (HL.out _)
      have hlen : l.length < 1000 := by
        have := nodup3 HX.out.2.2.2.2.1
        omega
      have HS9 := Lib.hid (sorted_calls HX.out.2.2.1 hlen (fun e => by rw [e] at hx1; cases hx1))
      clear hlen hx1
      go_wp2_with fail
      refine HS9.out.mono ?_
      rintro e9 w9 ⟨rfl, l9, hp, hs9, T9⟩
      have HF := Lib.hid (And.intro hp (And.intro hs9 T9))
      clear hp hs9 T9
      go_wp2_with fail
      go_ret
      refine ⟨_, l9, rfl, HF.out.2.1, HX.out.1.young HF.out.2.2 (fun b hb => (HX.out.2.2.2.1 b hb).1), ?_, fun x hx => ?_⟩
      · refine perm3 ((HF.out.1.map FE.i).nodup_iff.2 HX.out.2.2.2.2.1) fun i => ?_
        obtain ⟨x, hx, h2⟩ := HX.out.2.2.2.2.2.2 i (HL.out _)
        exact ⟨x, HF.out.1.mem_iff.2 hx, h2⟩
      · obtain ⟨-, h1, h2⟩ := HX.out.2.2.2.2.2.1 x (HF.out.1.mem_iff.1 hx)
        exact h1.turn HF.out.2.2 (fun k hk e => (h2 k hk).2.2 e)
    · intro k v1 w1 cnt1 hwk hlk hfk hrg1 hlt htn hsz hen
      obtain ⟨i, rfl, rfl, hfi⟩ := kf_some hfk
      have R1 : Turn (fun _ => False) w w1 := HX.out.1.trans' htn HX.out.2.1
      have hsl1 := (H.out.2.2.2 _ _ hfi).1.turn R1 (fun _ _ e => e)
      have HC := Lib.hid (bclone_calls hsl1 (by have := H.out.2.2.1; omega))
      have HN := Lib.hid (And.intro hrg1 (And.intro htn (And.intro hlt (And.intro R1 (And.intro hsz hlk)))))
      generalize g.fv (nameF i) = fv at *
      clear hrg hrg1 htn hlt hfk hlk hwk R1 hsl1 hfi hsz
      generalize hG : gk = GK at *
      clear hG
      go_wp2_with fail
      refine HC.out.mono ?_
      rintro e6 w6 ⟨u, rfl, hu, T6, ho⟩
      obtain ⟨ua, uc, rfl, -, -⟩ := bytes_form hu
      rw [bcells_length] at hu ho ⊢
      have hsl : SliceAt w6 48 2 (.slice va vn vc) (fcells l) := (HX.out.2.2.1.turn HN.out.2.1 (fun b hb => (HX.out.2.2.2.1 b hb).2)).turn T6 (fun _ _ e => e)
      have hlen : (fcells l).length ≤ 6 := by rw [fcells_length]; have := nodup3 HX.out.2.2.2.2.1; omega
      have HL := Lib.hid (And.intro hu (And.intro T6 (And.intro ho (And.intro hsl hlen))))
      clear hu T6 ho hsl hlen hen
      obtain ⟨nb, hnb⟩ : ∃ nb, bs (nameF i) = nb := ⟨_, rfl⟩
      have HNB := Lib.hid hnb
      rw [hnb]
      clear hnb
      obtain ⟨ub, hub⟩ : ∃ ub, b.length = ub := ⟨_, rfl⟩
      have HUB := Lib.hid hub
      rw [hub]
      clear hub
      go_wp2_with (at_builtin; refine wpList_append _ rfl _ _ 43 43 rfl 48 2 40 (.agg #[.string ByteArray.empty, .slice none 0 0]) Tryz.underlying43 (.inr ⟨_, Tryz.underlying43⟩) elemFile (.slice va vn vc) (fcells l) rfl ((HL.out.2.2.2.1.turn ((Turn.refl (fun _ => False) w6).alloc _) (fun _ _ hh => hh))) _ _ _ rfl (Src.block (heap_alloc_new w6 _) rfl) (by intro u hu; simp at hu; rcases hu with rfl | rfl <;> rfl) (by have := HL.out.2.2.2.2; simp; omega) (by have := HL.out.2.2.2.2; simp; omega) ?_
                   intro v' w8 hv' ht hw hn; clear hn; obtain ⟨ra, rn, rc, rfl, -⟩ := hv'.form
                   have hF := Lib.hid (And.intro hv' (And.intro ht hw))
                   clear hv' ht hw)
      go_roundg (cnt1)
      case measure => exact HN.out.2.2.1
      case rel =>
        have hRw := HN.out.1.lt
        have hT := HX.out.1.size
        have hz1 := HN.out.2.2.2.1.size
        have hz6 := HL.out.2.1.size
        have T8 : Turn (fun k => (Value.slice va vn vc).ownBlock = some k) w1 w8 := (((HL.out.2.1).mono fun _ _ e => e.elim).alloc _).trans hF.out.2.1
        have hmt := H.out.2.1.lt
        have hnew : ∀ k, (Value.slice ra rn rc).ownBlock = some k → (Value.slice va vn vc).ownBlock = some k ∨ w6.heap.size < k := by
          intro k hk
          rcases hF.out.2.2 with e | e
          · exact .inl (e ▸ hk)
          · rw [e] at hk
            have := Option.some.inj hk
            simp only [World.size_alloc] at this
            exact .inr (by omega)
        refine ⟨HN.out.2.2.2.1.young T8 ?_, HX.out.2.1, _, l ++ [⟨i, ua, ub, uc⟩], HN.out.1.keep ?_ ?_, ?_, ?_, ?_, ?_, ?_⟩
        · intro b hb
          exact (HX.out.2.2.2.1 b hb).1
        · exact T8.block _ (by omega) (fun e => by have := (HX.out.2.2.2.1 _ e).1; omega)
        · exact T8.block _ hRw (fun e => (HX.out.2.2.2.1 _ e).2 rfl)
        · rw [fcells_snoc]
          have := hF.out.1
          rw [← HNB.out] at this
          exact this
        · intro k hk
          rcases hnew k hk with e | e
          · exact HX.out.2.2.2.1 k e
          · omega
        · rw [List.map_append, List.nodup_append]
          refine ⟨HX.out.2.2.2.2.1, by simp, fun x hx y hy e => ?_⟩
          simp at hy
          obtain ⟨z, hz, rfl⟩ := List.mem_map.1 hx
          have := (HX.out.2.2.2.2.2.1 z hz).1
          rw [e, hy, HN.out.2.2.2.2.2] at this
          cases this
        · intro x hx
          rcases List.mem_append.1 hx with hx | hx
          · obtain ⟨a5, a6, a7⟩ := HX.out.2.2.2.2.2.1 x hx
            refine ⟨by rw [a5]; rfl, ((a6.turn HN.out.2.1 (fun k hk => (a7 k hk).2.1)).turn T8 (fun k hk => (a7 k hk).2.2)), fun k hk => ⟨(a7 k hk).1, (a7 k hk).2.1, fun e => ?_⟩⟩
            rcases hnew k e with e | e
            · exact (a7 k hk).2.2 e
            · have := a6.lt k hk
              have := HN.out.2.2.2.2.1
              omega
          · simp at hx
            subst hx
            have hu := HL.out.1
            rw [HUB.out] at hu
            have ho := HL.out.2.2.1
            rw [HUB.out] at ho
            refine ⟨by simp, (hu.turn ((Turn.refl (fun _ => False) w6).alloc _) (fun _ _ e => e)).turn hF.out.2.1 (fun k hk e => ?_), fun k hk => ⟨?_, ?_, fun e => ?_⟩⟩
            · have h1 := ho k hk
              have h2 := HX.out.2.2.1.lt k e
              have := HN.out.2.2.2.2.1
              omega
            · have h1 := ho k hk
              omega
            · have h1 := ho k hk
              omega
            · have h1 := ho k hk
              have h3 := hu.lt k hk
              rcases hnew k e with e | e
              · have h2 := HX.out.2.2.1.lt k e
                have := HN.out.2.2.2.2.1
                omega
              · omega
        · intro j hj
          by_cases e : j = i
          · exact ⟨_, List.mem_append_right _ (by simp; rfl), e.symm⟩
          · have : left (bs (nameF j)) = false := by
              have hne : (bs (nameF j) = bs (nameF i)) = False := eq_false (fun h => e (name_inj h))
              simpa [hne] using hj
            obtain ⟨x, hx, h2⟩ := HX.out.2.2.2.2.2.2 j this
            exact ⟨x, List.mem_append_left _ hx, h2⟩
end
end Go.Str
