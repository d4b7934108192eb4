/-
  word, Size, Read and Write, walked, as the plain model has them.
-/
import Derived.Test.YtahfoejffibahaaQStoPure1
set_option linter.unusedVariables false

namespace Go.Sto
open Go.Own Go.RowKit Go.Proofs

section
variable {g : Ghost} {S : St} {w w' : World}

theorem find_none_of (h : S = bs g.L) {a : Int} (hno : ∀ A x B, g.L = A ++ x :: B → isAt a (sz (bs A)) x.b = false) : find a S = none := by rw [h]; exact hit_none_of hno
theorem find_some_of (h : S = bs g.L) {a : Int} {A B : List Nd} {x : Nd} (hAB : g.L = A ++ x :: B) (hx : isAt a (sz (bs A)) x.b = true) (hne : ∀ A' y B', A = A' ++ y :: B' → isAt a (sz (bs A')) y.b = false) : find a S = some A.length := by
  rw [h, hAB, ← bs_length A]; exact hit_some_of hx hne
theorem wordsAt_of (h : S = bs g.L) {A B : List Nd} {x : Nd} (hAB : g.L = A ++ x :: B) : wordsAt S A.length = x.b.ws := by
  rw [h, hAB, bs_append, bs_cons, ← bs_length A]; unfold wordsAt; rw [drop_left]
theorem used_of {a : Int} {A : Nat} {x : Blk} (h : isAt a A x = true) : x.used = true := by
  simp only [isAt, Bool.and_eq_true] at h; exact h.1

theorem Repo.nd (h : Repo g S w) {A B : List Nd} {x : Nd} (hAB : g.L = A ++ x :: B) (hu : x.b.used = true) :
    ∃ b off cap, x.v = .slice (some ⟨b, off, none⟩) x.b.ws.length cap ∧ x.b.ws.length ≤ cap ∧ cap ≤ maxLen ∧ SliceAt w 3 1 (.slice (some ⟨b, off, none⟩) x.b.ws.length cap) (icells x.b.ws) ∧ g.ρ b = (2, (x.p : Int)) ∧ x.b.ws.length + 1 = x.b.size ∧ x.b.size ≤ 32000 := by
  have hxL : x ∈ g.L := by rw [hAB]; simp
  have hw := h.rep.wv x hxL
  have hg := h.ok.good x.b (by rw [h.rep.map]; exact List.mem_map_of_mem hxL)
  obtain ⟨sa, n, cap, hv, hl, hnc, hcm, -⟩ := hw.1.form
  have hn : n = x.b.ws.length := by simpa using hl.symm
  subst hn
  have hs := hw.1
  rw [hv] at hs
  obtain ⟨b, off, rfl⟩ := hs.addr (by have := hg.full hu; have := hg.two; omega)
  refine ⟨b, off, cap, hv, hnc, hcm, hs, hw.2 b (by rw [hv]; rfl), hg.full hu, ?_⟩
  have := h.ok.le
  rw [h.rep.map, hAB, bs_append, sz_append] at this
  simp [sz] at this; omega

/-- What word tells: the place of a word, or an error. -/
def WordPost (g : Ghost) (S : St) (a i : Int) (w : World) (e : Ending) (w' : World) : Prop :=
  Below w.heap.size w w' ∧
  ((find a S = none ∧ e = .returned (.tuple #[.pointer none, .int .i64 180])) ∨
   (∃ j, find a S = some j ∧ (i < 0 ∨ (wordsAt S j).length ≤ i) ∧ e = .returned (.tuple #[.pointer none, .int .i64 1])) ∨
   ∃ A x B b off cap, find a S = some A.length ∧ g.L = A ++ x :: B ∧ x.b.used = true ∧ x.v = .slice (some ⟨b, off, none⟩) x.b.ws.length cap ∧ 0 ≤ i ∧ i < x.b.ws.length ∧ e = .returned (.tuple #[.pointer (some ⟨b, off + i.toNat, none⟩), .int .i64 0]) ∧
      w'.cell? ⟨b, off + i.toNat, none⟩ = some (.int .i64 (x.b.ws.getD i.toNat 0)) ∧ w'.frozen? ⟨b, off + i.toNat, none⟩ = false)

theorem find_cases (h : S = bs g.L) (a : Int) : (find a S = none ∧ ∀ A x B, g.L = A ++ x :: B → isAt a (sz (bs A)) x.b = false) ∨
    ∃ A x B, g.L = A ++ x :: B ∧ isAt a (sz (bs A)) x.b = true ∧ (∀ A' y B', A = A' ++ y :: B' → isAt a (sz (bs A')) y.b = false) ∧ find a S = some A.length := by
  cases hf : find a S with
  | none =>
    refine .inl ⟨rfl, fun A x B e => ?_⟩
    have := of_hit_none hf (A := bs A) (y := x.b) (B := bs B) (by rw [h, e, bs_append, bs_cons])
    rwa [Nat.zero_add] at this
  | some i =>
    obtain ⟨A, x, B, e, hl, hx, hA⟩ := hit_some hf
    rw [h] at e
    obtain ⟨A1, z, B1, e1, rfl, rfl, rfl⟩ := bs_split e
    rw [Nat.zero_add] at hx
    refine .inr ⟨A1, z, B1, e1, hx, fun A' y B' e2 => ?_, by rw [← hl, bs_length]⟩
    have := hA (bs A') y.b (bs B') (by rw [e2, bs_append, bs_cons])
    rwa [Nat.zero_add] at this

theorem used_none (h : Rep g S w) (hsz : sz S ≤ 32000) {s : Nat} (hs : g.s = s) {a : Int} (hno : ∀ A x B, g.L = A ++ x :: B → isAt a (sz (bs A)) x.b = false) :
    Calls Try.prog 48 #[.pointer (some ⟨s, 0, none⟩), .int .i64 a] w fun e w' => e = .returned (.pointer none) ∧ Below w.heap.size w w' := by
  refine (used_calls h hsz hs a).mono ?_
  rintro e w1 ⟨hB, (⟨rfl, -⟩ | ⟨A, x, B, hAB, rfl, hat, hne⟩)⟩
  · exact ⟨rfl, hB⟩
  · rw [hno A x B hAB] at hat; cases hat

theorem used_hit (h : Rep g S w) (hsz : sz S ≤ 32000) {s : Nat} (hs : g.s = s) {a : Int} {A B : List Nd} {x : Nd} (hAB : g.L = A ++ x :: B) (hat : isAt a (sz (bs A)) x.b = true) (hne : ∀ A' y B', A = A' ++ y :: B' → isAt a (sz (bs A')) y.b = false) :
    Calls Try.prog 48 #[.pointer (some ⟨s, 0, none⟩), .int .i64 a] w fun e w' => e = .returned (.pointer (some ⟨x.p, 0, none⟩)) ∧ Below w.heap.size w w' := by
  refine (used_calls h hsz hs a).mono ?_
  rintro e w1 ⟨hB, (⟨rfl, hno⟩ | ⟨A1, x1, B1, hAB1, rfl, hat1, hne1⟩)⟩
  · rw [hno A x B hAB] at hat; cases hat
  · have e1 := find_some_of h.map hAB hat hne
    have e2 := find_some_of h.map hAB1 hat1 hne1
    rw [e1] at e2
    have hl : A.length = A1.length := by simpa using e2
    have := List.append_inj (hAB.symm.trans hAB1) hl
    have : x = x1 := by have := this.2; simp at this; exact this.1
    rw [this]
    exact ⟨rfl, hB⟩

theorem word_neg (h : Repo g S w) {s : Nat} (hs : g.s = s) (a i : Int) (hi : i < 0) :
    Calls Try.prog 51 #[.pointer (some ⟨s, 0, none⟩), .int .i64 a, .int .i64 i] w (WordPost g S a i w) := by
  subst hs
  have q1 : decide (i < 0) = true := by simp; omega
  have HI := Lib.hid hi
  clear hi
  rcases find_cases h.rep.map a with ⟨hf, hno⟩ | ⟨A, x, B, hAB, hat, hne, hf⟩
  · have hc := Lib.hid (used_none h.rep h.ok.le rfl hno)
    have HF := Lib.hid hf
    clear hf hno
    go_enter Try.func51, Try.ntmps51
    go_wp2_with (go_at_call 48; refine hc.out.mono ?_; rintro e w1 ⟨rfl, hB⟩)
    go_ret2
    exact ⟨hB, .inl ⟨HF.out, rfl⟩⟩
  · have hc := Lib.hid (used_hit h.rep h.ok.le rfl hAB hat hne)
    have HF := Lib.hid hf
    clear hf hne hat hAB
    go_enter Try.func51, Try.ntmps51
    go_wp2_with (go_at_call 48; refine hc.out.mono ?_; rintro e w1 ⟨rfl, hB⟩)
    go_ret2
    exact ⟨hB, .inr (.inl ⟨_, HF.out, .inl HI.out, rfl⟩)⟩

theorem word_nat (h : Repo g S w) {s : Nat} (hs : g.s = s) (a : Int) (j : Nat) :
    Calls Try.prog 51 #[.pointer (some ⟨s, 0, none⟩), .int .i64 a, .int .i64 j] w (WordPost g S a j w) := by
  subst hs
  have q1 : decide ((j : Int) < 0) = false := by simp
  rcases find_cases h.rep.map a with ⟨hf, hno⟩ | ⟨A, x, B, hAB, hat, hne, hf⟩
  · have hc := Lib.hid (used_none h.rep h.ok.le rfl hno)
    have HF := Lib.hid hf
    clear hf hno
    go_enter Try.func51, Try.ntmps51
    go_wp2_with (go_at_call 48; refine hc.out.mono ?_; rintro e w1 ⟨rfl, hB⟩)
    go_ret2
    exact ⟨hB, .inl ⟨HF.out, rfl⟩⟩
  · have hc := Lib.hid (used_hit h.rep h.ok.le rfl hAB hat hne)
    have HF := Lib.hid (And.intro hf (And.intro hAB hat))
    obtain ⟨b, off, cap, hv, hnc, hcm, hs, -, hful, hle⟩ := h.nd hAB (used_of hat)
    have HV := Lib.hid hv
    have hwl := wordsAt_of h.rep.map hAB
    have HW := Lib.hid hwl
    have hcell : ∀ w1, Below w.heap.size w w1 → w1.cell? ⟨x.p, 3, none⟩ = some (.slice (some ⟨b, off, none⟩) x.b.ws.length cap) := fun w1 hB => by
      rw [← hv]; exact (nd_cells (h.rep.cells hB hAB)).2.2.2.1
    have HS := Lib.hid hs
    clear hf hne hat hAB hv hwl hs
    by_cases hj : j < x.b.ws.length
    · have q2 : decide (((x.b.ws.length : Nat) : Int) ≤ j) = false := by simp; omega
      have q3 : decide (x.b.ws.length ≤ j) = false := by simp; omega
      go_enter Try.func51, Try.ntmps51
      go_wp2_with (go_at_call 48; refine hc.out.mono ?_; rintro e w1 ⟨rfl, hB⟩; have hc3 := hcell w1 hB; clear hcell)
      go_ret2
      refine ⟨hB, .inr (.inr ⟨A, x, B, b, off, cap, HF.out.1, HF.out.2.1, used_of HF.out.2.2, HV.out, by omega, by omega, rfl, ?_, ?_⟩)⟩
      · have h1 := HS.out.cells j (.int .i64 (x.b.ws.getD j 0)) (by simp [icells, hj])
        simp only [Int.toNat_natCast]
        rw [← h1]
        exact hB.cell (p := ⟨b, off + j, none⟩) (cell_lt h1)
      · have h1 := HS.out.cells j (.int .i64 (x.b.ws.getD j 0)) (by simp [icells, hj])
        rw [← HS.out.frozen (off + j)]
        simp only [World.frozen?, Int.toNat_natCast, hB.block b (cell_lt h1)]
    · have q2 : decide (((x.b.ws.length : Nat) : Int) ≤ j) = true := by simp; omega
      have q3 : decide (x.b.ws.length ≤ j) = true := by simp; omega
      go_enter Try.func51, Try.ntmps51
      go_wp2_with (go_at_call 48; refine hc.out.mono ?_; rintro e w1 ⟨rfl, hB⟩; have hc3 := hcell w1 hB; clear hcell)
      go_ret2
      exact ⟨hB, .inr (.inl ⟨_, HF.out.1, .inr (by rw [HW.out]; omega), rfl⟩)⟩

theorem word_calls (h : Repo g S w) {s : Nat} (hs : g.s = s) (a i : Int) :
    Calls Try.prog 51 #[.pointer (some ⟨s, 0, none⟩), .int .i64 a, .int .i64 i] w (WordPost g S a i w) := by
  rcases Int.lt_or_le i 0 with hi | hi
  · exact word_neg h hs a i hi
  · obtain ⟨j, rfl⟩ := Int.eq_ofNat_of_zero_le hi
    exact word_nat h hs a j

theorem read_calls (h : Repo g S w) {s : Nat} (hs : g.s = s) (a i : Int) :
    Calls Try.prog 25 #[.pointer (some ⟨s, 0, none⟩), .int .i64 a, .int .i64 i] w fun e w' => e = .returned (.tuple #[.int .i64 (read S a i).1, .int .i64 (read S a i).2]) ∧ Below w.heap.size w w' := by
  have hmap := Lib.hid h.rep.map
  go_enter Try.func25, Try.ntmps25
  go_wp2_with (go_at_call 51; refine (word_calls h hs a i).mono ?_; rintro e w1 ⟨hB, (⟨hf, rfl⟩ | ⟨j, hf, hi, rfl⟩ | ⟨A, x, B, b, off, cap, hf, hAB, hu, hv, h0, h1, rfl, hc, hfz⟩)⟩)
  · go_ret2
    refine ⟨?_, hB⟩
    unfold read; rw [hf]; rfl
  · go_ret2
    refine ⟨?_, hB⟩
    unfold read; rw [hf]; simp only []; rw [if_pos hi]; rfl
  · go_ret2
    refine ⟨?_, hB⟩
    have e1 : x.b.ws.getD i.toNat 0 = x.b.ws[i.toNat]'(by omega) := by simp [List.getD, show i.toNat < x.b.ws.length from by omega]
    unfold read; rw [hf]; simp only []; rw [wordsAt_of hmap.out hAB, if_neg (by omega), e1]; rfl

theorem size_calls (h : Repo g S w) {s : Nat} (hs : g.s = s) (a : Int) :
    Calls Try.prog 24 #[.pointer (some ⟨s, 0, none⟩), .int .i64 a] w fun e w' => e = .returned (.tuple #[.int .i64 (size S a).1, .int .i64 (size S a).2]) ∧ Below w.heap.size w w' := by
  subst hs
  rcases find_cases h.rep.map a with ⟨hf, hno⟩ | ⟨A, x, B, hAB, hat, hne, hf⟩
  · have hc := Lib.hid (used_none h.rep h.ok.le rfl hno)
    have HF := Lib.hid hf
    clear hf hno
    go_enter Try.func24, Try.ntmps24
    go_wp2_with (go_at_call 48; refine hc.out.mono ?_; rintro e w1 ⟨rfl, hB⟩)
    go_ret2
    refine ⟨?_, hB⟩
    unfold size; rw [HF.out]; rfl
  · have hc := Lib.hid (used_hit h.rep h.ok.le rfl hAB hat hne)
    obtain ⟨b, off, cap, hv, hnc, hcm, hs, -, hful, hle⟩ := h.nd hAB (used_of hat)
    have HF := Lib.hid (And.intro hf (wordsAt_of h.rep.map hAB))
    have hcell : ∀ w1, Below w.heap.size w w1 → w1.cell? ⟨x.p, 3, none⟩ = some (.slice (some ⟨b, off, none⟩) x.b.ws.length cap) := fun w1 hB => by
      rw [← hv]; exact (nd_cells (h.rep.cells hB hAB)).2.2.2.1
    clear hf hne hat hAB hv hs
    go_enter Try.func24, Try.ntmps24
    go_wp2_with (go_at_call 48; refine hc.out.mono ?_; rintro e w1 ⟨rfl, hB⟩; have hc3 := hcell w1 hB; clear hcell)
    go_ret2
    refine ⟨?_, hB⟩
    unfold size; rw [HF.out.1]; simp only []; rw [HF.out.2]; rfl

theorem set_ok {n : Nat} {A : St} {x : Blk} {B : St} (h : Ok n (A ++ x :: B)) (ws : List Int) (hl : ws.length = x.ws.length) (hw : ∀ v ∈ ws, (Lit.int .i64 v).wf = true) : Ok n (A ++ ⟨x.size, x.used, ws⟩ :: B) := by
  have hx := h.good x (by simp)
  obtain ⟨n1, n2, n3⟩ := norm_append.1 h.norm
  obtain ⟨m1, m2⟩ := norm_cons.1 n2
  refine ⟨h.lo, h.hi, h.even, by rw [← h.sum, sz_append, sz_append]; rfl, fun b hb => ?_, norm_append.2 ⟨n1, norm_cons.2 ⟨m1, m2⟩, fun A' a b B' e1 e2 => by cases e2; exact n3 A' a x B e1 rfl⟩⟩
  rcases List.mem_append.1 hb with hb | hb
  · exact h.good b (by simp [hb])
  · rcases List.mem_cons.1 hb with rfl | hb
    · refine ⟨hx.two, hx.even, fun hu => by rw [hl]; exact hx.full hu, fun hu => ?_, hw⟩
      have := hx.bare hu
      rw [this] at hl
      exact List.eq_nil_of_length_eq_zero hl
    · exact h.good b (by simp [hb])

/-- The words of a block in use are others. -/
theorem Repo.setWords (h : Repo g S w) {A B : List Nd} {x : Nd} (hAB : g.L = A ++ x :: B) {b off cap : Nat} (hv : x.v = .slice (some ⟨b, off, none⟩) x.b.ws.length cap) (ws : List Int) (hl : ws.length = x.b.ws.length) (hw : ∀ v ∈ ws, (Lit.int .i64 v).wf = true)
    (hko : KeepsOthers w w') (t : Turn (fun k => k = b) w w') (hs : SliceAt w' 3 1 (.slice (some ⟨b, off, none⟩) x.b.ws.length cap) (icells ws)) : ∃ g', Repo g' (Sto.setWords S A.length ws) w' ∧ Step g g' w w' := by
  have hxL : x ∈ g.L := by rw [hAB]; simp
  have hbt : g.ρ b = (2, (x.p : Int)) := (h.rep.wv x hxL).2 b (by rw [hv]; rfl)
  have hne : x.p ≠ b := fun e => by have := h.rep.tp x hxL; rw [e, hbt] at this; cases this
  have eS : S = bs A ++ x.b :: bs B := by rw [h.rep.map, hAB, bs_append, bs_cons]
  obtain ⟨g', e1, r1, s1⟩ := h.rep.refill hAB ⟨x.b.size, x.b.used, ws⟩ rfl x.v hko (t.mono fun k _ hk => by rw [hk]; exact .inr hbt)
    (by rw [t.block x.p (h.rep.plt hxL) hne]; exact h.rep.mid hAB)
    (by rw [hv]; exact hs) (fun k hk => by rw [hv] at hk; cases hk; exact .inr hbt)
  have e2 : Sto.setWords S A.length ws = bs g'.L := by
    rw [eS, ← bs_length A]
    unfold Sto.setWords
    rw [drop_left, take_left, e1]; simp
  refine ⟨g', ⟨by rw [e2]; exact r1, ?_⟩, s1⟩
  rw [e2, e1, s1.n]
  have := set_ok (eS ▸ h.ok) ws hl hw
  simpa using this

theorem write_calls (h : Repo g S w) {s : Nat} (hs : g.s = s) (a i v : Int) (hw : (Lit.int .i64 v).wf = true) :
    Calls Try.prog 26 #[.pointer (some ⟨s, 0, none⟩), .int .i64 a, .int .i64 i, .int .i64 v] w fun e w' => e = .returned (.int .i64 (write S a i v).2) ∧ ∃ g', Repo g' (write S a i v).1 w' ∧ Step g g' w w' := by
  have hmap := Lib.hid h.rep.map
  have H := Lib.hid (And.intro h hw)
  go_enter Try.func26, Try.ntmps26
  go_wp2_with (go_at_call 51; refine (word_calls h hs a i).mono ?_; rintro e w1 ⟨hB, (⟨hf, rfl⟩ | ⟨j, hf, hi, rfl⟩ | ⟨A, x, B, b, off, cap, hf, hAB, hu, hv, h0, h1, rfl, hc, hfz⟩)⟩)
  · go_ret
    have : write S a i v = (S, 180) := by unfold write; rw [hf]
    rw [this]
    exact ⟨rfl, g, ⟨H.out.1.rep.below hB (Nat.le_refl _), H.out.1.ok⟩, Step.bel hB⟩
  · go_ret
    have : write S a i v = (S, 1) := by unfold write; rw [hf]; simp only []; rw [if_pos hi]
    rw [this]
    exact ⟨rfl, g, ⟨H.out.1.rep.below hB (Nat.le_refl _), H.out.1.ok⟩, Step.bel hB⟩
  · go_ret
    have e1 : write S a i v = (setWords S A.length (x.b.ws.set i.toNat v), 0) := by
      unfold write; rw [hf]; simp only []; rw [wordsAt_of hmap.out hAB, if_neg (by omega)]
    rw [e1]
    have h1 : Repo g S w1 := ⟨H.out.1.rep.below hB (Nat.le_refl _), H.out.1.ok⟩
    obtain ⟨b', off', cap', hv', -, -, hsl, -⟩ := h1.nd hAB hu
    rw [hv] at hv'
    cases hv'
    have hset := hsl.set i.toNat (.int .i64 v) (by simp; omega)
    obtain ⟨g', r', s'⟩ := h1.setWords hAB hv (x.b.ws.set i.toNat v) (by simp) (fun u hu' => by
        rcases List.mem_or_eq_of_mem_set hu' with hu' | rfl
        · exact (h1.ok.good x.b (by rw [h1.rep.map, hAB]; simp)).wf u hu'
        · exact H.out.2) (KeepsOthers.setCell _ _ _) ((Turn.refl (fun k => k = b) _).setCell (p := ⟨b, off + i.toNat, none⟩) (fun _ => rfl) _) (by
        have e2 : icells (x.b.ws.set i.toNat v) = (icells x.b.ws).set i.toNat (.int .i64 v) := by simp [icells, List.map_set]
        rw [e2]; exact hset)
    exact ⟨rfl, g', r', (Step.bel hB).trans s'⟩
end
end Go.Sto
