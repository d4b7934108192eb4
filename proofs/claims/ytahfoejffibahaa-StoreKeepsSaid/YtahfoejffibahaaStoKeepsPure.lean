/-
  The blocks that a caller holds, each full of words of its own: no program in sight.
-/
import Derived.Test.YtahfoejffibahaaStoTopPure
namespace Go.Sto

def keep (a : Int) (m : Nat) : List Int := (List.range m).map fun (x : Nat) => 1000 * a + x
theorem keep_length (a : Int) (m : Nat) : (keep a m).length = m := by simp [keep]
theorem keep_succ (a : Int) (m : Nat) : keep a (m + 1) = keep a m ++ [1000 * a + m] := by simp [keep, List.range_succ]
theorem keep_get (a : Int) {m x : Nat} (h : x < m) : (keep a m).getD x 0 = 1000 * a + x := by simp [keep, List.getD, h]

def KH (S : St) (hs ss : List Int) : Prop := ∃ H : List (Int × List Int), H.Perm (U 0 S) ∧ hs = H.map Prod.fst ∧ (ss = H.map fun x => (x.2.length : Int)) ∧ ∀ x ∈ H, x.2 = keep x.1 x.2.length

/-- A block is being filled: x of its m words are written. -/
def KW (S : St) (hs ss : List Int) (a : Int) (m x : Nat) : Prop := ∃ (H X Y : List (Int × List Int)), U 0 S = X ++ (a, keep a x ++ zeros (m - x)) :: Y ∧ H.Perm (X ++ Y) ∧ hs = H.map Prod.fst ∧ (ss = H.map fun x => (x.2.length : Int)) ∧ ∀ x ∈ H, x.2 = keep x.1 x.2.length

theorem find_off {S : St} {a : Int} (h : ∀ x ∈ U 0 S, x.1 ≠ a) : find a S = none := by
  refine hit_none fun A y B e => ?_
  unfold isAt
  cases hu : y.used with
  | false => rfl
  | true =>
    have : (((sz A : Nat) : Int) + 1, y.ws) ∈ U 0 S := by rw [e, U_append]; simp [U, hu]
    have := h _ this
    simpa using this

theorem put_twice {n : Nat} {S : St} (h : Ok n S) {X Y : List (Int × List Int)} {x : Int × List Int} (hx : U 0 S = X ++ x :: Y) : ∃ S', put S x.1 = (S', 0) ∧ put S' x.1 = (S', 180) ∧ U 0 S' = X ++ Y ∧ Ok n S' := by
  obtain ⟨S', h1, h2, h3⟩ := put_U h hx
  refine ⟨S', h1, ?_, h2, h3⟩
  have hn := h.nodup
  rw [hx] at hn
  have : find x.1 S' = none := find_off fun y hy e => by
    rw [h2] at hy
    have hp : ((x :: (X ++ Y)).map Prod.fst).Nodup := (List.perm_middle.map Prod.fst).nodup_iff.1 hn
    rw [List.map_cons, List.nodup_cons] at hp
    exact hp.1 (List.mem_map.2 ⟨y, hy, e⟩)
  unfold put
  rw [this]

theorem kh_put {n : Nat} {S : St} (h : Ok n S) {hs ss : List Int} (hh : KH S hs ss) {K : Nat} (hK : K < hs.length) :
    ∃ a S', hs[K]? = some a ∧ put S a = (S', 0) ∧ put S' a = (S', 180) ∧ Ok n S' ∧ KH S' (hs.take K ++ hs.drop (K + 1)) (ss.take K ++ ss.drop (K + 1)) := by
  obtain ⟨H, hp, rfl, rfl, hw⟩ := hh
  rw [List.length_map] at hK
  obtain ⟨H1, x, H2, rfl, hl⟩ : ∃ H1 x H2, H = H1 ++ x :: H2 ∧ H1.length = K := by
    refine ⟨H.take K, H[K], H.drop (K + 1), ?_, by simp; omega⟩
    rw [← List.drop_eq_getElem_cons hK, List.take_append_drop]
  subst hl
  have hx : x ∈ U 0 S := hp.mem_iff.1 (by simp)
  obtain ⟨X, Y, hXY⟩ := List.append_of_mem hx
  obtain ⟨S', hput, hput2, hU, hok⟩ := put_twice h hXY
  refine ⟨x.1, S', by simp, hput, hput2, hok, H1 ++ H2, ?_, cut_map _ _ _ _, cut_map _ _ _ _, fun y hy => hw y ?_⟩
  · rw [hU]
    rw [hXY] at hp
    have h1 := List.perm_middle.symm.trans (hp.trans List.perm_middle)
    exact h1.cons_inv
  · rcases List.mem_append.1 hy with q | q <;> simp [q]

theorem kh_read {n : Nat} {S : St} (h : Ok n S) {hs ss : List Int} (hh : KH S hs ss) {K : Nat} (hK : K < hs.length) :
    ∃ (a : Int) (m : Nat), hs[K]? = some a ∧ ss[K]? = some (m : Int) ∧ m ≤ 32000 ∧ 0 < a ∧ a ≤ 32000 ∧ ∀ x : Nat, x < m → read S a x = (1000 * a + x, 0) := by
  obtain ⟨H, hp, rfl, rfl, hw⟩ := hh
  rw [List.length_map] at hK
  have hx : H[K] ∈ U 0 S := hp.mem_iff.1 (List.getElem_mem hK)
  have hpos := h.pos hx
  have hlen : H[K].2.length ≤ 32000 := by
    obtain ⟨A, b, B, e, hu, e1, e2, -, -⟩ := h.split hx
    have hg := (h.good b (by rw [e]; simp)).full hu
    have h3 := h.sum
    have h4 := h.hi
    rw [e, sz_append] at h3
    simp only [sz] at h3
    rw [e2]; omega
  refine ⟨H[K].1, H[K].2.length, by simp [hK], by simp [hK], hlen, hpos.1, by omega, fun x hxm => ?_⟩
  rw [read_U h hx (by omega) (by omega), Int.toNat_natCast, hw _ (List.getElem_mem hK), keep_get _ hxm]

theorem kh_none {n : Nat} {S : St} (h : Ok n S) (hh : KH S [] []) : S = [hole n] := by
  obtain ⟨H, hp, h1, -⟩ := hh
  have : H = [] := by simpa using h1.symm
  subst this
  exact one_block h (by simpa using hp.symm)

theorem KH.len {S : St} {hs ss : List Int} (h : KH S hs ss) : hs.length = ss.length := by
  obtain ⟨H, -, rfl, rfl, -⟩ := h; simp

theorem kw_start {n : Nat} {S S' : St} (h : Ok n S) {hs ss : List Int} (hh : KH S hs ss) {k a : Int} (hg : get S k = (S', a, 0)) :
    ∃ m : Nat, size S' a = ((m : Int), 0) ∧ k ≤ m ∧ m ≤ 32002 ∧ 0 < a ∧ a ≤ 32000 ∧ Ok n S' ∧ KW S' hs ss a m 0 := by
  obtain ⟨H, hp, rfl, rfl, hw⟩ := hh
  rcases get_U h k with ⟨e, he, h0⟩ | ⟨T, b, X, Y, he, hU, hU', hok, hb, k0, k1⟩
  · rw [hg] at he; cases he; exact absurd rfl h0
  · rw [hg] at he; cases he
    have hx : (a, zeros (need k - 1)) ∈ U 0 S' := by rw [hU']; simp
    have hpos := hok.pos hx
    have e1 := size_U hok hx
    have hlz : (zeros (need k - 1)).length = need k - 1 := by simp [zeros]
    rw [hlz] at e1
    have e3 : need k = max 2 ((k.toNat + 2) / 2 * 2) := rfl
    refine ⟨need k - 1, e1, by omega, by omega, hpos.1, by have := hpos.2.1; omega, hok, H, X, Y, ?_, hU ▸ hp, rfl, rfl, hw⟩
    rw [hU']; simp [keep]

theorem kw_mem {S : St} {hs ss : List Int} {a : Int} {m x : Nat} (hh : KW S hs ss a m x) : (a, keep a x ++ zeros (m - x)) ∈ U 0 S := by
  obtain ⟨H, X, Y, hU, -⟩ := hh
  rw [hU]; simp

theorem kw_read {n : Nat} {S : St} (h : Ok n S) {hs ss : List Int} {a : Int} {m x : Nat} (hh : KW S hs ss a m x) (hx : x < m) : read S a x = (0, 0) := by
  rw [read_U h (kw_mem hh) (by omega) (by simp [keep_length, zeros]; omega), Int.toNat_natCast]
  simp [List.getD, List.getElem?_append, keep_length, zeros, List.getElem?_replicate]
  rw [if_pos (by omega)]; rfl

theorem kw_write {n : Nat} {S : St} (h : Ok n S) {hs ss : List Int} {a : Int} {m x : Nat} (hh : KW S hs ss a m x) (hx : x < m) (hv : (Lit.int .i64 (1000 * a + x)).wf = true) :
    ∃ S', write S a x (1000 * a + x) = (S', 0) ∧ Ok n S' ∧ KW S' hs ss a m (x + 1) := by
  have hm := kw_mem hh
  obtain ⟨H, X, Y, hU, hp, h1, h2, hw⟩ := hh
  obtain ⟨S', X', Y', e1, e2, e3, hok⟩ := write_U h hm (i := x) hv (by omega) (by simp [keep_length, zeros]; omega)
  have hn := h.nodup
  rw [e2] at hn
  have hs2 := pair_split hn (e2.symm.trans hU)
  refine ⟨S', e1, hok, H, X, Y, ?_, hp, h1, h2, hw⟩
  rw [e3, hs2.1, hs2.2]
  congr 2
  rw [Prod.mk.injEq]
  refine ⟨rfl, ?_⟩
  rw [Int.toNat_natCast, List.set_append, keep_length, if_neg (by omega), Nat.sub_self, keep_succ]
  obtain ⟨d, hd⟩ : ∃ d, m - x = d + 1 := ⟨m - x - 1, by omega⟩
  rw [hd, show m - (x + 1) = d by omega]
  simp [zeros, List.replicate_succ]

theorem kw_end {S : St} {hs ss : List Int} {a : Int} {m : Nat} (hh : KW S hs ss a m m) : KH S (hs ++ [a]) (ss ++ [(m : Int)]) := by
  obtain ⟨H, X, Y, hU, hp, rfl, rfl, hw⟩ := hh
  have e0 : keep a m ++ zeros (m - m) = keep a m := by simp [zeros]
  rw [e0] at hU
  refine ⟨H ++ [(a, keep a m)], ?_, by simp, by simp [keep_length], fun y hy => ?_⟩
  · rw [hU]
    have e1 : (H ++ [(a, keep a m)]).Perm ((a, keep a m) :: H) := by simpa only [List.singleton_append] using List.perm_append_comm (l₁ := H) (l₂ := [(a, keep a m)])
    exact e1.trans ((hp.cons _).trans List.perm_middle.symm)
  · rcases List.mem_append.1 hy with q | q
    · exact hw y q
    · simp only [List.mem_singleton] at q
      subst q
      simp [keep_length]
end Go.Sto
