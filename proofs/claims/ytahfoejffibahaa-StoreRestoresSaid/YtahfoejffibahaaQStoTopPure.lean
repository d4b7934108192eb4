/-
  The blocks that a caller holds, and what stands in the first word of each: no program in sight.
-/
import Derived.Test.YtahfoejffibahaaQStoPure2
namespace Go.Sto

def HeldH (S : St) (hs ms : List Int) : Prop := ∃ H : List (Int × List Int), H.Perm (U 0 S) ∧ hs = H.map Prod.fst ∧ ms = H.map fun x => x.2.headD 0

theorem headD_getD (l : List Int) : l.headD 0 = l.getD 0 0 := by cases l <;> rfl

theorem cut_map {α β : Type} (f : α → β) (A : List α) (x : α) (B : List α) : ((A ++ x :: B).map f).take A.length ++ ((A ++ x :: B).map f).drop (A.length + 1) = (A ++ B).map f := by
  have h1 : ((A ++ x :: B).map f).take A.length = A.map f := by
    rw [← List.map_take, List.take_left']; rfl
  have h2 : ((A ++ x :: B).map f).drop (A.length + 1) = B.map f := by
    rw [← List.map_drop, show A ++ x :: B = (A ++ [x]) ++ B from by simp, List.drop_left' (by simp)]
  rw [h1, h2, List.map_append]

theorem held_put {n : Nat} {S : St} (h : Ok n S) {hs ms : List Int} (hh : HeldH S hs ms) {K : Nat} (hK : K < hs.length) :
    ∃ a v S', hs[K]? = some a ∧ ms[K]? = some v ∧ read S a 0 = (v, 0) ∧ put S a = (S', 0) ∧ Ok n S' ∧ HeldH S' (hs.take K ++ hs.drop (K + 1)) (ms.take K ++ ms.drop (K + 1)) := by
  obtain ⟨H, hp, rfl, rfl⟩ := hh
  rw [List.length_map] at hK
  obtain ⟨H1, x, H2, rfl, hl⟩ : ∃ H1 x H2, H = H1 ++ x :: H2 ∧ H1.length = K := by
    refine ⟨H.take K, H[K], H.drop (K + 1), ?_, by simp; omega⟩
    rw [← List.drop_eq_getElem_cons hK, List.take_append_drop]
  subst hl
  have hx : x ∈ U 0 S := hp.mem_iff.1 (by simp)
  obtain ⟨X, Y, hXY⟩ := List.append_of_mem hx
  obtain ⟨S', hput, hU, hok⟩ := put_U h hXY
  have hpos := h.pos hx
  refine ⟨x.1, x.2.headD 0, S', by simp, by simp, ?_, hput, hok, H1 ++ H2, ?_, cut_map _ _ _ _, cut_map _ _ _ _⟩
  · rw [headD_getD]
    exact read_U h hx (by omega) (by omega)
  · rw [hU]
    rw [hXY] at hp
    have h1 := List.perm_middle.symm.trans (hp.trans List.perm_middle)
    exact h1.cons_inv

theorem held_get {n : Nat} {S S' : St} (h : Ok n S) {hs ms : List Int} (hh : HeldH S hs ms) {k a v : Int} (hg : get S k = (S', a, 0)) (hv : (Lit.int .i64 v).wf = true) :
    ∃ S'', write S' a 0 v = (S'', 0) ∧ Ok n S'' ∧ HeldH S'' (hs ++ [a]) (ms ++ [v]) := by
  obtain ⟨H, hp, rfl, rfl⟩ := hh
  rcases get_U h k with ⟨e, he, h0⟩ | ⟨T, b, X, Y, he, hU, hU', hok, hb, -, -⟩
  · rw [hg] at he; cases he; exact absurd rfl h0
  · rw [hg] at he; cases he
    have hx : (a, zeros (need k - 1)) ∈ U 0 S' := by rw [hU']; simp
    have hpos := hok.pos hx
    obtain ⟨S'', X', Y', hw, hUw, hUw', hok'⟩ := write_U hok hx (i := 0) hv (by omega) (by omega)
    have hn := hok.nodup
    rw [hUw] at hn
    have hs2 := pair_split hn (hUw.symm.trans hU')
    refine ⟨S'', hw, hok', H ++ [(a, (zeros (need k - 1)).set 0 v)], ?_, by simp, ?_⟩
    · rw [hUw', hs2.1, hs2.2]
      have e1 : (H ++ [(a, (zeros (need k - 1)).set 0 v)]).Perm ((a, (zeros (need k - 1)).set 0 v) :: H) := by simpa only [List.singleton_append] using List.perm_append_comm (l₁ := H) (l₂ := [(a, (zeros (need k - 1)).set 0 v)])
      refine e1.trans ?_
      rw [hU] at hp
      exact (hp.cons _).trans List.perm_middle.symm
    · have h1 : 1 ≤ need k - 1 := by have := (need_good k).1; omega
      obtain ⟨m, hm⟩ : ∃ m, need k - 1 = m + 1 := ⟨need k - 2, by omega⟩
      rw [hm]
      simp [zeros, List.replicate_succ]

theorem held_none {n : Nat} {S : St} (h : Ok n S) (hh : HeldH S [] []) : S = [hole n] := by
  obtain ⟨H, hp, h1, -⟩ := hh
  have : H = [] := by simpa using h1.symm
  subst this
  exact one_block h (by simpa using hp.symm)

theorem HeldH.len {S : St} {hs ms : List Int} (h : HeldH S hs ms) : hs.length = ms.length := by
  obtain ⟨H, -, rfl, rfl⟩ := h; simp

theorem held_fail {n : Nat} {S : St} (h : Ok n S) {k : Int} (hg : (get S k).2.2 ≠ 0) : (get S k).1 = S ∧ (get S k).2.1 = 0 := by
  rcases get_U h k with ⟨e, he, h0⟩ | ⟨T, b, X, Y, he, -⟩
  · rw [he]; exact ⟨rfl, rfl⟩
  · rw [he] at hg; exact absurd rfl hg
end Go.Sto
