/-
  The blocks that a caller holds, and what stands in the first word of each: no program in sight.
-/
import Derived.Test.YtahfoejffibahaaQStoPure2
import Derived.Test.YtahfoejffibahaaQStoGrow2
set_option linter.unusedVariables false

namespace Go.Sto

def HeldH (S : St) (hs ms : List Int) : Prop := ∃ H : List (Int × List Int), H.Perm (U 0 S) ∧ hs = H.map Prod.fst ∧ ms = H.map fun x => x.2.headD 0

theorem headD_getD (l : List Int) : l.headD 0 = l.getD 0 0 := by cases l <;> rfl

theorem cut_map {α β : Type} (f : α → β) (A : List α) (x : α) (B : List α) : ((A ++ x :: B).map f).take A.length ++ ((A ++ x :: B).map f).drop (A.length + 1) = (A ++ B).map f := by
  have h1 : ((A ++ x :: B).map f).take A.length = A.map f := by
    rw [← List.map_take, List.take_left']; rfl
  have h2 : ((A ++ x :: B).map f).drop (A.length + 1) = B.map f := by
    rw [← List.map_drop, show A ++ x :: B = (A ++ [x]) ++ B from by simp, List.drop_left' (by simp)]
  rw [h1, h2, List.map_append]

theorem held_put {n : Nat} {S : St} (h : Ok n S) {hs ms : List Int} (hh : HeldH S hs ms) {K : Nat} (hK : K < hs.length) :
    ∃ a v S', hs[K]? = some a ∧ ms[K]? = some v ∧ read S a 0 = (v, 0) ∧ put S a = (S', 0) ∧ Ok n S' ∧ HeldH S' (hs.take K ++ hs.drop (K + 1)) (ms.take K ++ ms.drop (K + 1)) := by
  obtain ⟨H, hp, rfl, rfl⟩ := hh
  rw [List.length_map] at hK
  obtain ⟨H1, x, H2, rfl, hl⟩ : ∃ H1 x H2, H = H1 ++ x :: H2 ∧ H1.length = K := by
    refine ⟨H.take K, H[K], H.drop (K + 1), ?_, by simp; omega⟩
    rw [← List.drop_eq_getElem_cons hK, List.take_append_drop]
  subst hl
  have hx : x ∈ U 0 S := hp.mem_iff.1 (by simp)
  obtain ⟨X, Y, hXY⟩ := List.append_of_mem hx
  obtain ⟨S', hput, hU, hok⟩ := put_U h hXY
  have hpos := h.pos hx
  refine ⟨x.1, x.2.headD 0, S', by simp, by simp, ?_, hput, hok, H1 ++ H2, ?_, cut_map _ _ _ _, cut_map _ _ _ _⟩
  · rw [headD_getD]
    exact read_U h hx (by omega) (by omega)
  · rw [hU]
    rw [hXY] at hp
    have h1 := List.perm_middle.symm.trans (hp.trans List.perm_middle)
    exact h1.cons_inv

theorem held_get {n : Nat} {S S' : St} (h : Ok n S) {hs ms : List Int} (hh : HeldH S hs ms) {k a v : Int} (hg : get S k = (S', a, 0)) (hv : (Lit.int .i64 v).wf = true) :
    ∃ S'', write S' a 0 v = (S'', 0) ∧ Ok n S'' ∧ HeldH S'' (hs ++ [a]) (ms ++ [v]) := by
  obtain ⟨H, hp, rfl, rfl⟩ := hh
  rcases get_U h k with ⟨e, he, h0⟩ | ⟨T, b, X, Y, he, hU, hU', hok, hb, -, -⟩
  · rw [hg] at he; cases he; exact absurd rfl h0
  · rw [hg] at he; cases he
    have hx : (a, zeros (need k - 1)) ∈ U 0 S' := by rw [hU']; simp
    have hpos := hok.pos hx
    obtain ⟨S'', X', Y', hw, hUw, hUw', hok'⟩ := write_U hok hx (i := 0) hv (by omega) (by omega)
    have hn := hok.nodup
    rw [hUw] at hn
    have hs2 := pair_split hn (hUw.symm.trans hU')
    refine ⟨S'', hw, hok', H ++ [(a, (zeros (need k - 1)).set 0 v)], ?_, by simp, ?_⟩
    · rw [hUw', hs2.1, hs2.2]
      have e1 : (H ++ [(a, (zeros (need k - 1)).set 0 v)]).Perm ((a, (zeros (need k - 1)).set 0 v) :: H) := by simpa only [List.singleton_append] using List.perm_append_comm (l₁ := H) (l₂ := [(a, (zeros (need k - 1)).set 0 v)])
      refine e1.trans ?_
      rw [hU] at hp
      exact (hp.cons _).trans List.perm_middle.symm
    · have h1 : 1 ≤ need k - 1 := by have := (need_good k).1; omega
      obtain ⟨m, hm⟩ : ∃ m, need k - 1 = m + 1 := ⟨need k - 2, by omega⟩
      rw [hm]
      simp [zeros, List.replicate_succ]

theorem held_none {n : Nat} {S : St} (h : Ok n S) (hh : HeldH S [] []) : S = [hole n] := by
  obtain ⟨H, hp, h1, -⟩ := hh
  have : H = [] := by simpa using h1.symm
  subst this
  exact one_block h (by simpa using hp.symm)

theorem HeldH.len {S : St} {hs ms : List Int} (h : HeldH S hs ms) : hs.length = ms.length := by
  obtain ⟨H, -, rfl, rfl⟩ := h; simp

theorem held_fail {n : Nat} {S : St} (h : Ok n S) {k : Int} (hg : (get S k).2.2 ≠ 0) : (get S k).1 = S ∧ (get S k).2.1 = 0 := by
  rcases get_U h k with ⟨e, he, h0⟩ | ⟨T, b, X, Y, he, -⟩
  · rw [he]; exact ⟨rfl, rfl⟩
  · rw [he] at hg; exact absurd rfl hg
end Go.Sto

/-
  A block that grows, among the others: no program in sight.
-/
namespace Go.Sto

theorem grow_U {n : Nat} {S : St} (h : Ok n S) {a : Int} {ws : List Int} (hx : (a, ws) ∈ U 0 S) (k : Int) :
    (∃ e, grow S a k = (S, 0, e) ∧ e ≠ 0) ∨ ∃ T c, grow S a k = (T, c, 0) ∧ (c, resize ws (need k - 1)) ∈ U 0 T ∧ Ok n T ∧ 0 ≤ k ∧ k ≤ 32000 := by
  obtain ⟨A, x, B, rfl, hu, e1, e2, hf, hU⟩ := h.split hx
  simp only at e1 e2 hf
  subst e2
  by_cases hk : k < 0 ∨ 32000 < k
  · exact .inl ⟨1, grow_range hf hk, by decide⟩
  · have h0 : 0 ≤ k := by omega
    have h1 : k ≤ 32000 := by omega
    rcases tight_or x B (need k) with hb | ⟨SB, hb⟩
    · rcases get_U h k with ⟨e, he, hne⟩ | ⟨T, tt, X, Y, hg, hU1, hU2, hT, hto, -, -⟩
      · exact .inl ⟨e, grow_fail hf h0 h1 hb he hne, hne⟩
      · right
        have hmem : (tt, zeros (need k - 1)) ∈ U 0 T := by rw [hU2]; simp
        obtain ⟨A1, y, B1, rfl, hy, f1, f2, hft, hUT⟩ := hT.split hmem
        simp only at f1 f2 hft
        have hgm := grow_moves hf h0 h1 hb hg hft
        have hgy := hT.good y (by simp)
        have hfull := hgy.full hy
        have hwl : x.ws.length ≤ need k - 1 := by have := (h.good x (by simp)).full hu; have := hb.1; omega
        have hset : setWords (A1 ++ y :: B1) A1.length (resize x.ws (need k - 1)) = A1 ++ ⟨y.size, y.used, resize x.ws (need k - 1)⟩ :: B1 := by unfold setWords; rw [drop_left, take_left]
        have hok2 : Ok n (A1 ++ ⟨y.size, y.used, resize x.ws (need k - 1)⟩ :: B1) := set_ok hT _ (by rw [← f2]; simp [resize, zeros]) (wf_resize (h.good x (by simp)).wf _)
        rw [hset] at hgm
        have hU3 : U 0 (A1 ++ ⟨y.size, y.used, resize x.ws (need k - 1)⟩ :: B1) = U 0 A1 ++ (tt, resize x.ws (need k - 1)) :: U (sz A1 + y.size) B1 := by
          rw [U_append]; simp [U, hy, f1]
        have hne : tt ≠ a := by
          intro e
          have hn := hT.nodup
          rw [hU2] at hn
          have h3 : a ∈ (X ++ Y).map Prod.fst := by rw [← hU1]; exact List.mem_map.2 ⟨_, hx, rfl⟩
          have h4 := (List.perm_middle.map Prod.fst).nodup_iff.1 hn
          rw [List.map_cons, List.nodup_cons] at h4
          exact h4.1 (e ▸ h3)
        have ha3 : (a, x.ws) ∈ U 0 (A1 ++ ⟨y.size, y.used, resize x.ws (need k - 1)⟩ :: B1) := by
          have h5 : (a, x.ws) ∈ X ++ Y := by rw [← hU1]; exact hx
          have h6 : (a, x.ws) ∈ U 0 (A1 ++ y :: B1) := by
            rw [hU2]
            rcases List.mem_append.1 h5 with q | q <;> simp [q]
          rw [hUT] at h6
          rw [hU3]
          rcases List.mem_append.1 h6 with q | q
          · simp [q]
          · rcases List.mem_cons.1 q with q | q
            · exact absurd (congrArg Prod.fst q).symm hne
            · simp [q]
        obtain ⟨X2, Y2, hXY⟩ := List.append_of_mem ha3
        obtain ⟨S', hp, hU', hok'⟩ := put_U hok2 hXY
        simp only at hp
        rw [hp] at hgm
        refine ⟨S', tt, hgm, ?_, hok', h0, h1⟩
        have h7 : (tt, resize x.ws (need k - 1)) ∈ X2 ++ (a, x.ws) :: Y2 := by rw [← hXY, hU3]; simp
        rw [hU']
        rcases List.mem_append.1 h7 with q | q
        · simp [q]
        · rcases List.mem_cons.1 q with q | q
          · exact absurd (congrArg Prod.fst q) hne
          · simp [q]
    · right
      have hA := (behind_facts h hb).2.2
      refine ⟨_, a, grow_stays hf hA h0 h1 hb, ?_, grow_ok h hu hb, h0, h1⟩
      rw [U_append]
      simp [U, e1]

/-- A block got and given back. -/
theorem get_put_U {n : Nat} {S : St} (h : Ok n S) (k : Int) : U 0 (put (get S k).1 (get S k).2.1).1 = U 0 S ∧ Ok n (put (get S k).1 (get S k).2.1).1 := by
  rcases get_U h k with ⟨e, he, -⟩ | ⟨T, tt, X, Y, hg, hU1, hU2, hT, hto, -, -⟩
  · rw [he]
    have : put S 0 = (S, 180) := by
      unfold put
      have : find 0 S = none := by
        refine hit_none fun A y B e => ?_
        simp only [isAt, Bool.and_eq_false_iff, decide_eq_false_iff_not]
        right; omega
      rw [this]
    rw [this]
    exact ⟨rfl, h⟩
  · rw [hg]
    obtain ⟨S', hp, hU', hok'⟩ := put_U hT hU2
    simp only at hp ⊢
    rw [hp]
    exact ⟨hU'.trans hU1.symm, hok'⟩

theorem get_mem {n : Nat} {S : St} (h : Ok n S) (k : Int) {x : Int × List Int} (hx : x ∈ U 0 S) : x ∈ U 0 (get S k).1 := by
  rcases get_U h k with ⟨e, he, -⟩ | ⟨T, tt, X, Y, hg, hU1, hU2, -⟩
  · rw [he]; exact hx
  · rw [hg, hU2]
    rw [hU1] at hx
    rcases List.mem_append.1 hx with q | q <;> simp [q]

def up (m : Nat) : List Int := (List.range m).map fun (x : Nat) => (x : Int) + 1
theorem up_length (m : Nat) : (up m).length = m := by simp [up]
theorem up_succ (m : Nat) : up (m + 1) = up m ++ [(m : Int) + 1] := by simp [up, List.range_succ]
theorem up_get {m x : Nat} (h : x < m) : (up m).getD x 0 = (x : Int) + 1 := by simp [up, List.getD, h]

/-- Some block at a is being filled: i of its m words are written. -/
def Fill (S : St) (a : Int) (m i : Nat) : Prop := (a, up i ++ zeros (m - i)) ∈ U 0 S

theorem fill_write {n : Nat} {S : St} (h : Ok n S) {a : Int} {m i : Nat} (hf : Fill S a m i) (hi : i < m) (hv : (Lit.int .i64 ((i : Int) + 1)).wf = true) :
    ∃ S', write S a i ((i : Int) + 1) = (S', 0) ∧ Ok n S' ∧ Fill S' a m (i + 1) := by
  obtain ⟨S', X, Y, e1, e2, e3, hok⟩ := write_U h hf (i := i) hv (by omega) (by simp [up_length, zeros]; omega)
  refine ⟨S', e1, hok, ?_⟩
  unfold Fill
  rw [e3]
  have : (up i ++ zeros (m - i)).set i ((i : Int) + 1) = up (i + 1) ++ zeros (m - (i + 1)) := by
    rw [List.set_append, up_length, if_neg (by omega), Nat.sub_self, up_succ]
    obtain ⟨d, hd⟩ : ∃ d, m - i = d + 1 := ⟨m - i - 1, by omega⟩
    rw [hd, show m - (i + 1) = d by omega]
    simp [zeros, List.replicate_succ]
  simp only [Int.toNat_natCast, this]
  simp

/-- What is read behind all: the first w words are 1, 2, .., the others 0. -/
def Tells (S : St) (c : Int) (w v : Nat) : Prop := size S c = ((v : Int), 0) ∧ ∀ i : Nat, i < v → read S c i = (if i < w then (i : Int) + 1 else 0, 0)

theorem tells_of {n : Nat} {S : St} (h : Ok n S) {c : Int} {ws : List Int} (hx : (c, ws) ∈ U 0 S) {w : Nat} (hw : ∀ i : Nat, i < ws.length → ws.getD i 0 = if i < w then (i : Int) + 1 else 0) : Tells S c w ws.length := by
  refine ⟨size_U h hx, fun i hi => ?_⟩
  rw [read_U h hx (by omega) (by show (i : Int) < (ws.length : Int); omega), Int.toNat_natCast, hw i hi]

theorem tells_same {n : Nat} {S : St} (h : Ok n S) {a : Int} {w : Nat} (hf : Fill S a w w) : Tells S a w w := by
  have e : up w ++ zeros (w - w) = up w := by simp [zeros]
  unfold Fill at hf
  rw [e] at hf
  have := tells_of h hf (w := w) fun i hi => by
    rw [up_length] at hi
    rw [up_get hi, if_pos hi]
  rwa [up_length] at this

theorem tells_grown {n : Nat} {S : St} (h : Ok n S) {a : Int} {w : Nat} (hf : Fill S a w w) (k : Int) :
    (∃ e, grow S a k = (S, 0, e) ∧ e ≠ 0) ∨ ∃ T c v, grow S a k = (T, c, 0) ∧ Ok n T ∧ Tells T c w v ∧ k ≤ v ∧ v ≤ 32002 := by
  have e : up w ++ zeros (w - w) = up w := by simp [zeros]
  unfold Fill at hf
  rw [e] at hf
  rcases grow_U h hf k with h1 | ⟨T, c, hg, hx, hT, h0, h1⟩
  · exact .inl h1
  · right
    have := tells_of hT hx (w := w) fun i hi => by
      have hl : i < need k - 1 := by simpa [resize, zeros] using hi
      unfold resize
      rw [List.getD_eq_getElem?_getD, List.getElem?_take, if_pos hl, List.getElem?_append, up_length]
      by_cases hiw : i < w
      · rw [if_pos hiw, if_pos hiw, ← List.getD_eq_getElem?_getD, up_get hiw]
      · rw [if_neg hiw, if_neg hiw]
        simp only [zeros, List.getElem?_replicate]
        split <;> rfl
    have hl : (resize (up w) (need k - 1)).length = need k - 1 := by simp [resize, zeros]
    rw [hl] at this
    have e3 : need k = max 2 ((k.toNat + 2) / 2 * 2) := rfl
    exact ⟨T, c, need k - 1, hg, hT, this, by omega, by omega⟩
end Go.Sto
