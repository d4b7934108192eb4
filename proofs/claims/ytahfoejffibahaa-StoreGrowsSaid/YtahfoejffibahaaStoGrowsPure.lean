/-
  A block that grows, among the others: no program in sight.
-/
import Derived.Test.YtahfoejffibahaaStoGrow2
import Derived.Test.YtahfoejffibahaaStoTopPure
namespace Go.Sto

theorem grow_U {n : Nat} {S : St} (h : Ok n S) {a : Int} {ws : List Int} (hx : (a, ws) ∈ U 0 S) (k : Int) :
    (∃ e, grow S a k = (S, 0, e) ∧ e ≠ 0) ∨ ∃ T c, grow S a k = (T, c, 0) ∧ (c, resize ws (need k - 1)) ∈ U 0 T ∧ Ok n T ∧ 0 ≤ k ∧ k ≤ 32000 := by
  obtain ⟨A, x, B, rfl, hu, e1, e2, hf, hU⟩ := h.split hx
  simp only at e1 e2 hf
  subst e2
  by_cases hk : k < 0 ∨ 32000 < k
  · exact .inl ⟨1, grow_range hf hk, by decide⟩
  · have h0 : 0 ≤ k := by omega
    have h1 : k ≤ 32000 := by omega
    rcases tight_or x B (need k) with hb | ⟨SB, hb⟩
    · rcases get_U h k with ⟨e, he, hne⟩ | ⟨T, tt, X, Y, hg, hU1, hU2, hT, hto, -, -⟩
      · exact .inl ⟨e, grow_fail hf h0 h1 hb he hne, hne⟩
      · right
        have hmem : (tt, zeros (need k - 1)) ∈ U 0 T := by rw [hU2]; simp
        obtain ⟨A1, y, B1, rfl, hy, f1, f2, hft, hUT⟩ := hT.split hmem
        simp only at f1 f2 hft
        have hgm := grow_moves hf h0 h1 hb hg hft
        have hgy := hT.good y (by simp)
        have hfull := hgy.full hy
        have hwl : x.ws.length ≤ need k - 1 := by have := (h.good x (by simp)).full hu; have := hb.1; omega
        have hset : setWords (A1 ++ y :: B1) A1.length (resize x.ws (need k - 1)) = A1 ++ ⟨y.size, y.used, resize x.ws (need k - 1)⟩ :: B1 := by unfold setWords; rw [drop_left, take_left]
        have hok2 : Ok n (A1 ++ ⟨y.size, y.used, resize x.ws (need k - 1)⟩ :: B1) := set_ok hT _ (by rw [← f2]; simp [resize, zeros]) (wf_resize (h.good x (by simp)).wf _)
        rw [hset] at hgm
        have hU3 : U 0 (A1 ++ ⟨y.size, y.used, resize x.ws (need k - 1)⟩ :: B1) = U 0 A1 ++ (tt, resize x.ws (need k - 1)) :: U (sz A1 + y.size) B1 := by
          rw [U_append]; simp [U, hy, f1]
        have hne : tt ≠ a := by
          intro e
          have hn := hT.nodup
          rw [hU2] at hn
          have h3 : a ∈ (X ++ Y).map Prod.fst := by rw [← hU1]; exact List.mem_map.2 ⟨_, hx, rfl⟩
          have h4 := (List.perm_middle.map Prod.fst).nodup_iff.1 hn
          rw [List.map_cons, List.nodup_cons] at h4
          exact h4.1 (e ▸ h3)
        have ha3 : (a, x.ws) ∈ U 0 (A1 ++ ⟨y.size, y.used, resize x.ws (need k - 1)⟩ :: B1) := by
          have h5 : (a, x.ws) ∈ X ++ Y := by rw [← hU1]; exact hx
          have h6 : (a, x.ws) ∈ U 0 (A1 ++ y :: B1) := by
            rw [hU2]
            rcases List.mem_append.1 h5 with q | q <;> simp [q]
          rw [hUT] at h6
          rw [hU3]
          rcases List.mem_append.1 h6 with q | q
          · simp [q]
          · rcases List.mem_cons.1 q with q | q
            · exact absurd (congrArg Prod.fst q).symm hne
            · simp [q]
        obtain ⟨X2, Y2, hXY⟩ := List.append_of_mem ha3
        obtain ⟨S', hp, hU', hok'⟩ := put_U hok2 hXY
        simp only at hp
        rw [hp] at hgm
        refine ⟨S', tt, hgm, ?_, hok', h0, h1⟩
        have h7 : (tt, resize x.ws (need k - 1)) ∈ X2 ++ (a, x.ws) :: Y2 := by rw [← hXY, hU3]; simp
        rw [hU']
        rcases List.mem_append.1 h7 with q | q
        · simp [q]
        · rcases List.mem_cons.1 q with q | q
          · exact absurd (congrArg Prod.fst q) hne
          · simp [q]
    · right
      have hA := (behind_facts h hb).2.2
      refine ⟨_, a, grow_stays hf hA h0 h1 hb, ?_, grow_ok h hu hb, h0, h1⟩
      rw [U_append]
      simp [U, e1]

/-- A block got and given back. -/
theorem get_put_U {n : Nat} {S : St} (h : Ok n S) (k : Int) : U 0 (put (get S k).1 (get S k).2.1).1 = U 0 S ∧ Ok n (put (get S k).1 (get S k).2.1).1 := by
  rcases get_U h k with ⟨e, he, -⟩ | ⟨T, tt, X, Y, hg, hU1, hU2, hT, hto, -, -⟩
  · rw [he]
    have : put S 0 = (S, 180) := by
      unfold put
      have : find 0 S = none := by
        refine hit_none fun A y B e => ?_
        simp only [isAt, Bool.and_eq_false_iff, decide_eq_false_iff_not]
        right; omega
      rw [this]
    rw [this]
    exact ⟨rfl, h⟩
  · rw [hg]
    obtain ⟨S', hp, hU', hok'⟩ := put_U hT hU2
    simp only at hp ⊢
    rw [hp]
    exact ⟨hU'.trans hU1.symm, hok'⟩

theorem get_mem {n : Nat} {S : St} (h : Ok n S) (k : Int) {x : Int × List Int} (hx : x ∈ U 0 S) : x ∈ U 0 (get S k).1 := by
  rcases get_U h k with ⟨e, he, -⟩ | ⟨T, tt, X, Y, hg, hU1, hU2, -⟩
  · rw [he]; exact hx
  · rw [hg, hU2]
    rw [hU1] at hx
    rcases List.mem_append.1 hx with q | q <;> simp [q]

def up (m : Nat) : List Int := (List.range m).map fun (x : Nat) => (x : Int) + 1
theorem up_length (m : Nat) : (up m).length = m := by simp [up]
theorem up_succ (m : Nat) : up (m + 1) = up m ++ [(m : Int) + 1] := by simp [up, List.range_succ]
theorem up_get {m x : Nat} (h : x < m) : (up m).getD x 0 = (x : Int) + 1 := by simp [up, List.getD, h]

/-- Some block at a is being filled: i of its m words are written. -/
def Fill (S : St) (a : Int) (m i : Nat) : Prop := (a, up i ++ zeros (m - i)) ∈ U 0 S

theorem fill_write {n : Nat} {S : St} (h : Ok n S) {a : Int} {m i : Nat} (hf : Fill S a m i) (hi : i < m) (hv : (Lit.int .i64 ((i : Int) + 1)).wf = true) :
    ∃ S', write S a i ((i : Int) + 1) = (S', 0) ∧ Ok n S' ∧ Fill S' a m (i + 1) := by
  obtain ⟨S', X, Y, e1, e2, e3, hok⟩ := write_U h hf (i := i) hv (by omega) (by simp [up_length, zeros]; omega)
  refine ⟨S', e1, hok, ?_⟩
  unfold Fill
  rw [e3]
  have : (up i ++ zeros (m - i)).set i ((i : Int) + 1) = up (i + 1) ++ zeros (m - (i + 1)) := by
    rw [List.set_append, up_length, if_neg (by omega), Nat.sub_self, up_succ]
    obtain ⟨d, hd⟩ : ∃ d, m - i = d + 1 := ⟨m - i - 1, by omega⟩
    rw [hd, show m - (i + 1) = d by omega]
    simp [zeros, List.replicate_succ]
  simp only [Int.toNat_natCast, this]
  simp

/-- What is read behind all: the first w words are 1, 2, .., the others 0. -/
def Tells (S : St) (c : Int) (w v : Nat) : Prop := size S c = ((v : Int), 0) ∧ ∀ i : Nat, i < v → read S c i = (if i < w then (i : Int) + 1 else 0, 0)

theorem tells_of {n : Nat} {S : St} (h : Ok n S) {c : Int} {ws : List Int} (hx : (c, ws) ∈ U 0 S) {w : Nat} (hw : ∀ i : Nat, i < ws.length → ws.getD i 0 = if i < w then (i : Int) + 1 else 0) : Tells S c w ws.length := by
  refine ⟨size_U h hx, fun i hi => ?_⟩
  rw [read_U h hx (by omega) (by show (i : Int) < (ws.length : Int); omega), Int.toNat_natCast, hw i hi]

theorem tells_same {n : Nat} {S : St} (h : Ok n S) {a : Int} {w : Nat} (hf : Fill S a w w) : Tells S a w w := by
  have e : up w ++ zeros (w - w) = up w := by simp [zeros]
  unfold Fill at hf
  rw [e] at hf
  have := tells_of h hf (w := w) fun i hi => by
    rw [up_length] at hi
    rw [up_get hi, if_pos hi]
  rwa [up_length] at this

theorem tells_grown {n : Nat} {S : St} (h : Ok n S) {a : Int} {w : Nat} (hf : Fill S a w w) (k : Int) :
    (∃ e, grow S a k = (S, 0, e) ∧ e ≠ 0) ∨ ∃ T c v, grow S a k = (T, c, 0) ∧ Ok n T ∧ Tells T c w v ∧ k ≤ v ∧ v ≤ 32002 := by
  have e : up w ++ zeros (w - w) = up w := by simp [zeros]
  unfold Fill at hf
  rw [e] at hf
  rcases grow_U h hf k with h1 | ⟨T, c, hg, hx, hT, h0, h1⟩
  · exact .inl h1
  · right
    have := tells_of hT hx (w := w) fun i hi => by
      have hl : i < need k - 1 := by simpa [resize, zeros] using hi
      unfold resize
      rw [List.getD_eq_getElem?_getD, List.getElem?_take, if_pos hl, List.getElem?_append, up_length]
      by_cases hiw : i < w
      · rw [if_pos hiw, if_pos hiw, ← List.getD_eq_getElem?_getD, up_get hiw]
      · rw [if_neg hiw, if_neg hiw]
        simp only [zeros, List.getElem?_replicate]
        split <;> rfl
    have hl : (resize (up w) (need k - 1)).length = need k - 1 := by simp [resize, zeros]
    rw [hl] at this
    have e3 : need k = max 2 ((k.toNat + 2) / 2 * 2) := rfl
    exact ⟨T, c, need k - 1, hg, hT, this, by omega, by omega⟩
end Go.Sto
