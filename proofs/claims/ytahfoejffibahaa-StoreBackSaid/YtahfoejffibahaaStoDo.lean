/-
  told, and a player's calls of Get and Put, walked.
-/
import Derived.Test.YtahfoejffibahaaStoPlayer
namespace Go.Sto
open Go.Own Go.RowKit Go.Proofs

def toldM (v e : Int) : Int := if e = 0 then v else -e

theorem told_calls (v e : Int) (h0 : 0 ≤ e) (h1 : e ≤ 1000) (w : World) : Calls Try.prog 64 #[.int .i64 v, .int .i64 e] w fun x w' => x = .returned (.int .i64 (toldM v e)) ∧ w' = w := by
  by_cases he : e = 0
  · subst he
    go_enter Try.func64, Try.ntmps64
    go_wp2
    go_ret
    exact ⟨rfl, rfl⟩
  · have hb : (e == 0) = false := beq_eq_false_iff_ne.2 he
    have hw : IntKind.i64.wrap (-e) = -e := IntWalk.i64_in _ (by omega)
    have e1 : toldM v e = -e := if_neg he
    rw [e1]
    go_enter Try.func64, Try.ntmps64
    go_wp2
    go_ret
    refine ⟨?_, rfl⟩
    first | rfl | simp [hw]

/-- What a player's call makes of the store and of what is live, and what it tells. -/
def doM (S : St) (took live : List Int) (what k : Int) : St × List Int × Int :=
  if what = 0 then
    let r := get S k
    (r.1, if r.2.2 = 0 then live ++ [r.2.1] else live, toldM r.2.1 r.2.2)
  else if what = 1 then
    if k < 0 ∨ took.length ≤ k ∨ took.getD k.toNat 0 = 0 then (S, live, 0) else
    let a := took.getD k.toNat 0
    let r := put S a
    (r.1, if r.2 = 0 then live.filter (fun x => x != a) else live, toldM 0 r.2)
  else
    match live.getLast? with
    | none => (S, live, 0)
    | some b =>
      let r := grow S b k
      (r.1, if r.2.2 = 0 then live.dropLast ++ [r.2.1] else live, toldM r.2.1 r.2.2)

def DoPost (w0 : World) (g : Ghost) (pb : Nat) (gv tv : Value) (gave took : List Int) (r : St × List Int × Int) (e : Ending) (w' : World) : Prop :=
  e = .returned (.int .i64 r.2.2) ∧ ∃ g' m' lv', PM w0 g' pb r.1 m' gv tv lv' gv tv lv' gave took r.2.1 w' ∧ g'.s = g.s ∧ g'.n = g.n

theorem get_errno {n : Nat} {S : St} (_h : Ok n S) (k : Int) : 0 ≤ (get S k).2.2 ∧ (get S k).2.2 ≤ 2 := by
  unfold get
  split
  · simp
  · cases hit (fits (need k)) 0 S <;> simp

set_option maxRecDepth 100000 in
set_option maxHeartbeats 2000000 in
theorem do_get {w0 w : World} {g : Ghost} {pb : Nat} {S : St} {m : Lab} {gv tv lv : Value} {gave took live : List Int} (h : PM w0 g pb S m gv tv lv gv tv lv gave took live w) (hl : live.length ≤ 1000) (k : Int) :
    Calls Try.prog 40 #[.pointer (some ⟨pb, 0, none⟩), .int .i64 0, .int .i64 k] w (DoPost w0 g pb gv tv gave took (doM S took live 0 k)) := by
  have hb := h.blk
  have c0 : w.cell? ⟨pb, 0, none⟩ = some (.pointer (some ⟨g.s, 0, none⟩)) := cell_at hb rfl
  have hget := get_full h.repo rfl k
  have herr := get_errno h.repo.ok k
  have hdo : doM S took live 0 k = ((get S k).1, if (get S k).2.2 = 0 then live ++ [(get S k).2.1] else live, toldM (get S k).2.1 (get S k).2.2) := rfl
  obtain ⟨⟨S1, A, E⟩, hgt⟩ : ∃ r, get S k = r := ⟨_, rfl⟩
  rw [hgt] at hget herr hdo
  simp only at hget herr hdo
  have HD := Lib.hid hdo
  have H := Lib.hid h
  have HG := Lib.hid hget
  clear hget hgt hdo hb h
  go_enter Try.func40, Try.ntmps40
  go_wp2_with fail
  refine HG.out.mono ?_
  rintro e1 w1 ⟨rfl, g1, r1, s1⟩
  have h1 := H.out.step r1 s1
  by_cases hE : E = 0
  · subst hE
    have h1a := h1.below ((Below.refl w1.heap.size w1).alloc (Nat.le_refl _) (.cells #[.int .i64 A] 3))
    have c3 : w1.cell? ⟨pb, 3, none⟩ = some lv := cell_at h1.blk rfl
    have f3 : ∀ i, w1.frozen? ⟨pb, i, none⟩ = false := fun i => frozen_at h1.blk
    have hpb := heap_lt h1.blk
    obtain ⟨la, ln, lc, rfl, hll, -⟩ := h1.ls.1.form
    have H1 := Lib.hid (And.intro h1a (And.intro s1.s s1.n))
    clear h1 h1a r1 s1
    go_wp2_with (first
      | (at_builtin; refine wpList_append _ rfl _ _ 24 24 rfl 3 1 8 (.int .i64 0) Try.underlying24 (.inr ⟨_, Try.underlying24⟩) elemInt (.slice la ln lc) _ rfl H1.out.1.ls.1 _ _ _ rfl (Src.one rfl (heap_alloc_new w1 _)) (by intro u hu; simp at hu; subst hu; rfl) (by simp; omega) (by simp; omega) ?_
         intro v2 w2 hv2 ht2 hw2 hn2
         have h2 := H1.out.1.app_l ht2 (l := live ++ [A]) (by rw [icells_append]; exact hv2) hw2
         have d3 : (w2.cell? ⟨pb, 3, none⟩).isSome = true := by rw [cell_at h2.blk rfl]; rfl
         have f2 : ∀ i, w2.frozen? ⟨pb, i, none⟩ = false := fun i => frozen_at h2.blk
         have d3' : w2.cell? ⟨pb, 3, none⟩ = some (.slice la ln lc) := cell_at h2.blk rfl
         obtain ⟨m3, h3⟩ := h2.sto 3 v2 (bg' := gv) (bt' := tv) (bl' := v2) rfl
         obtain ⟨pa, pn, pc, rfl, -⟩ := hv2.form
         have H3 := Lib.hid h3
         clear h2 h3 hv2 ht2 hw2 hn2 c3 f3)
      | (go_at_call 64; refine (told_calls A 0 (by decide) (by decide) _).mono ?_; rintro e4 w4 ⟨rfl, rfl⟩))
    go_ret
    rw [HD.out, if_pos trivial]
    exact ⟨rfl, g1, m3, _, H3.out, H1.out.2.1, H1.out.2.2⟩
  · have hb : (E == 0) = false := beq_eq_false_iff_ne.2 hE
    have H1 := Lib.hid (And.intro h1 (And.intro s1.s s1.n))
    clear h1 r1 s1
    have HT := Lib.hid (told_calls A E herr.1 (by omega) w1)
    have HE := Lib.hid hE
    clear hE
    go_wp2_with (go_at_call 64; refine HT.out.mono ?_; rintro e4 w4 ⟨rfl, rfl⟩)
    go_ret
    rw [HD.out, if_neg HE.out]
    exact ⟨rfl, g1, m, lv, H1.out.1, H1.out.2.1, H1.out.2.2⟩
end Go.Sto
