/-
  slices.DeleteFunc over a closure that compares with a captured number, walked.
-/
import Derived.Lib.SliceRun
import Derived.Deep.LoopGhost
import Derived.Test.YtahfoejffibahaaQStoPlayer
set_option linter.unusedVariables false

namespace Go.Sto
open Go.Own Go.RowKit Go.Proofs

theorem do1_calls (x a : Int) (B : Nat) (w : World) (hc : w.cell? ⟨B, 0, none⟩ = some (.int .i64 a)) :
    Calls Try.prog 66 #[.int .i64 x, .pointer (some ⟨B, 0, none⟩)] w fun e w' => e = .returned (.bool (x == a)) ∧ w' = w := by
  go_enter Try.func66, Try.ntmps66
  go_wp2
  go_ret
  exact ⟨rfl, rfl⟩

def IdxPost (l : List Int) (a : Int) (w : World) (e : Ending) (w' : World) : Prop :=
  w' = w ∧ ((∃ j : Nat, l[j]? = some a ∧ (∀ j', j' < j → l[j']? ≠ some a) ∧ e = .returned (.int .i64 j)) ∨ ((∀ j : Nat, l[j]? ≠ some a) ∧ e = .returned (.int .i64 (-1))))

set_option maxHeartbeats 1000000 in
theorem index_calls {w : World} {v : Value} {l : List Int} (h : SliceAt w 3 1 v (icells l)) (hl : l.length ≤ 1000) (a : Int) (B : Nat) (hc : w.cell? ⟨B, 0, none⟩ = some (.int .i64 a)) :
    Calls Try.prog 74 #[v, .func (.func 66) #[] #[.pointer (some ⟨B, 0, none⟩)]] w (IdxPost l a w) := by
  obtain ⟨la, cap, rfl, -, -, hcell⟩ := ints_form h
  have HC := Lib.hid hcell
  clear h hcell
  go_enter Try.func74, Try.ntmps74
  go_wp2
  go_loopw [8] (fun i wr => ∃ j : Nat, j ≤ l.length ∧ i = .int .i64 j ∧ wr = w ∧ ∀ j', j' < j → l[j']? ≠ some a) (fun i _ => l.length - (intOf i).toNat)
  case atStart => exact ⟨0, by omega, rfl, rfl, fun j' hj => by omega⟩
  case round =>
    obtain ⟨j, hj, rfl, rfl, hsk⟩ := hrel
    have HS := Lib.hid hsk
    clear hsk
    by_cases hlt : j < l.length
    · obtain ⟨x, hx⟩ : ∃ x, l[j]? = some x := ⟨_, List.getElem?_eq_getElem hlt⟩
      obtain ⟨b, off, rfl, cj⟩ := HC.out j x hx
      have HX := Lib.hid hx
      clear hx
      by_cases hxa : x = a
      · subst hxa
        have hd := do1_calls x x B wr hc
        rw [show (x == x) = true from by simp] at hd
        have HD := Lib.hid hd
        clear hd
        go_wp2_with (go_at_call 66; refine HD.out.mono ?_; rintro e w1 ⟨rfl, rfl⟩)
        go_ret
        exact ⟨by first | rfl | trivial, .inl ⟨j, HX.out, HS.out, rfl⟩⟩
      · have hd := do1_calls x a B wr hc
        rw [show (x == a) = false from by simp [hxa]] at hd
        have HD := Lib.hid hd
        have HN := Lib.hid hxa
        clear hd hxa
        go_wp2_with (go_at_call 66; refine HD.out.mono ?_; rintro e w1 ⟨rfl, rfl⟩)
        go_roundw
        case rel =>
          refine ⟨j + 1, by omega, by go_num, by trivial, fun j' hj' e => ?_⟩
          rcases Nat.lt_or_eq_of_le (Nat.le_of_lt_succ hj') with q | q
          · exact HS.out j' q e
          · subst q; rw [HX.out] at e; exact HN.out (Option.some.inj e)
        case measure => simp [intOf]; omega
    · obtain rfl : j = l.length := by omega
      go_wp2
      go_ret
      refine ⟨by first | rfl | trivial, .inr ⟨fun j e => ?_, rfl⟩⟩
      have := (List.getElem?_eq_some_iff.1 e).1
      exact HS.out j this e

def DelPost (v : Value) (l : List Int) (a : Int) (w : World) (e : Ending) (w' : World) : Prop :=
  ∃ v', e = .returned v' ∧ SliceAt w' 3 1 v' (icells (l.filter fun x => x != a)) ∧ Turn (fun k => v.ownBlock = some k) w w' ∧ v'.ownBlock = v.ownBlock

theorem SliceAt.setCells {w : World} {e : TypeId} {b off n cap : Nat} : ∀ (vs : List Value) {xs : List Value} (i : Nat), SliceAt w e 1 (.slice (some ⟨b, off, none⟩) n cap) xs → i + vs.length ≤ xs.length →
    SliceAt (w.setCells b (off + i) vs) e 1 (.slice (some ⟨b, off, none⟩) n cap) (xs.take i ++ vs ++ xs.drop (i + vs.length)) ∧ Turn (fun k => k = b) w (w.setCells b (off + i) vs) := by
  intro vs
  induction vs generalizing w with
  | nil => intro xs i h hi; exact ⟨by simpa [World.setCells] using h, Turn.refl _ _⟩
  | cons v vs ih =>
    intro xs i h hi
    simp only [List.length_cons] at hi
    have h1 := h.set i v (by omega)
    obtain ⟨h2, t2⟩ := ih (i + 1) h1 (by simp; omega)
    refine ⟨?_, ((Turn.refl (fun k => k = b) w).setCell (p := ⟨b, off + i, none⟩) (fun _ => rfl) v).trans t2⟩
    have e1 : (xs.set i v).take (i + 1) = xs.take i ++ [v] := by
      rw [List.take_add_one, List.take_set_of_le (Nat.le_refl _)]
      simp [show i < xs.length from by omega]
    have e2 : (xs.set i v).drop (i + 1 + vs.length) = xs.drop (i + (vs.length + 1)) := by
      rw [List.drop_set_of_lt (by omega)]; congr 1; omega
    rw [e1, e2] at h2
    simpa [World.setCells, Nat.add_assoc] using h2

theorem take_filter_succ {l : List Int} {j : Nat} {x : Int} (h : l[j]? = some x) (p : Int → Bool) : (l.take (j + 1)).filter p = (l.take j).filter p ++ (if p x = true then [x] else []) := by
  rw [List.take_add_one, h, List.filter_append]
  simp only [Option.toList_some]
  congr 1
  by_cases hp : p x = true
  · rw [if_pos hp]; simp [hp]
  · rw [if_neg hp]; simp [hp]

set_option maxRecDepth 10000 in
set_option maxHeartbeats 2000000 in
theorem del_calls {w : World} {v : Value} {l : List Int} (h : SliceAt w 3 1 v (icells l)) (hl : l.length ≤ 1000) (a : Int) (B : Nat) (hc : w.cell? ⟨B, 0, none⟩ = some (.int .i64 a)) (hB : ∀ b, v.ownBlock = some b → b ≠ B) :
    Calls Try.prog 65 #[v, .func (.func 66) #[] #[.pointer (some ⟨B, 0, none⟩)]] w (DelPost v l a w) := by
  have hix := Lib.hid (index_calls h hl a B hc)
  have hBl : B < w.heap.size := cell_lt hc
  by_cases hall : ∀ j : Nat, l[j]? ≠ some a
  · have hfil : l.filter (fun x => x != a) = l := List.filter_eq_self.2 fun x hx => by
      obtain ⟨j, hj⟩ := List.getElem?_of_mem hx
      have : x ≠ a := fun e => hall j (e ▸ hj)
      simpa using this
    obtain ⟨la, cap, hv, -, -, -⟩ := ints_form h
    have HH := Lib.hid (And.intro h (And.intro hfil hall))
    subst hv
    clear h hfil hall hB
    go_enter Try.func65, Try.ntmps65
    go_wp2_with fail
    refine hix.out.mono ?_
    rintro e1 w1 ⟨rfl, (⟨j, hj, -, rfl⟩ | ⟨-, rfl⟩)⟩
    · exact absurd hj (HH.out.2.2 j)
    · go_wp2
      go_ret
      exact ⟨_, rfl, by rw [HH.out.2.1]; exact HH.out.1, Turn.refl _ _, rfl⟩
  · obtain ⟨la, cap, hv, hn1, hn2, hcell⟩ := ints_form h
    subst hv
    have hne : ∃ j : Nat, l[j]? = some a := by
      by_cases hh : ∃ j : Nat, l[j]? = some a
      · exact hh
      · exact absurd (fun j e => hh ⟨j, e⟩) hall
    obtain ⟨jj, hjj⟩ := hne
    obtain ⟨b, off, rfl, -⟩ := hcell jj a hjj
    have hbB : b ≠ B := hB b rfl
    have hbB' : B ≠ b := fun e => hbB e.symm
    have HH := Lib.hid (And.intro h hall)
    clear h hall hjj hcell hB
    go_enter Try.func65, Try.ntmps65
    go_wp2_with fail
    refine hix.out.mono ?_
    rintro e1 w1 ⟨rfl, (⟨j0, hj0, hbef, rfl⟩ | ⟨hno, -⟩)⟩
    · have hj0l : j0 < l.length := (List.getElem?_eq_some_iff.1 hj0).1
      have hm1 : ((j0 : Int) == -1) = false := beq_eq_false_iff_ne.2 (by omega)
      have hw1 : IntKind.i64.wrap ((j0 : Int) + 1) = (j0 : Int) + 1 := IntWalk.i64_in _ (by omega)
      have HJ := Lib.hid (And.intro hj0 hbef)
      clear hj0 hbef
      go_wp2
      go_loopg [5, 6, 7] (l.length - (j0 + 1)) (fun k i jv _ wr => ∃ (iN jN : Nat) (M : List Int), k + jN = l.length ∧ i = .int .i64 iN ∧ jv = .int .i64 jN ∧ iN < jN ∧ M.length = l.length ∧ M.take iN = (l.take jN).filter (fun x => x != a) ∧ M.drop jN = l.drop jN ∧ SliceAt wr 3 1 (.slice (some ⟨b, off, none⟩) l.length cap) (icells M) ∧ Turn (fun k => k = b) w1 wr)
      case atStart =>
        refine ⟨j0, j0 + 1, l, ?_, rfl, by go_num, by omega, rfl, ?_, rfl, HH.out.1, Turn.refl _ _⟩
        · omega
        · rw [take_filter_succ HJ.out.1]
          have : (l.take j0).filter (fun x => x != a) = l.take j0 := List.filter_eq_self.2 fun x hx => by
            obtain ⟨j', hj'⟩ := List.getElem?_of_mem hx
            rw [List.getElem?_take] at hj'
            split at hj'
            · have : x ≠ a := fun e => HJ.out.2 j' (by assumption) (e ▸ hj')
              simpa using this
            · cases hj'
          simp [this]
      case round =>
        obtain ⟨iN, jN, M, hk, rfl, rfl, hij, hML, hMi, hMj, hM, hT⟩ := hrel
        have hcB : wr.cell? ⟨B, 0, none⟩ = some (.int .i64 a) := (hT.cell (p := ⟨B, 0, none⟩) hbB' hBl).trans hc
        have HM := Lib.hid (And.intro hMi (And.intro hMj (And.intro hM hT)))
        clear hMi hMj hT
        by_cases hlt : jN < l.length
        · obtain ⟨x, hx⟩ : ∃ x, l[jN]? = some x := ⟨_, List.getElem?_eq_getElem hlt⟩
          have hMx : M[jN]? = some x := by
            have e1 : (M.drop jN)[0]? = (l.drop jN)[0]? := by rw [HM.out.2.1]
            simpa [hx] using e1
          have hcx := hM.cells jN (.int .i64 x) (by simp [icells, hMx])
          have hfz := hM.frozen
          have HX := Lib.hid (And.intro hx hMx)
          have hdo := do1_calls x a B wr hcB
          clear hx hMx hM
          by_cases hxa : x = a
          · subst hxa
            rw [show (x == x) = true from by simp] at hdo
            have HD := Lib.hid hdo
            clear hdo
            go_wp2_with (go_at_call 66; refine HD.out.mono ?_; rintro e w2 ⟨rfl, rfl⟩)
            go_roundg (gk - 1)
            case measure => omega
            case rel =>
              refine ⟨iN, jN + 1, M, by omega, rfl, by go_num, by omega, hML, ?_, ?_, HM.out.2.2.1, HM.out.2.2.2⟩
              · rw [take_filter_succ HX.out.1, HM.out.1]; simp
              · rw [← List.drop_drop, ← List.drop_drop, HM.out.2.1]
          · have hxb : (x == a) = false := by simp [hxa]
            rw [hxb] at hdo
            have HD := Lib.hid hdo
            have HN := Lib.hid hxa
            clear hdo hxa
            have hiL : iN < l.length := by omega
            have hci := HM.out.2.2.1.cells iN (.int .i64 (M[iN]'(by omega))) (by simp [icells])
            go_wp2_with (go_at_call 66; refine HD.out.mono ?_; rintro e w2 ⟨rfl, rfl⟩)
            go_roundg (gk - 1)
            case measure => omega
            case rel =>
              refine ⟨iN + 1, jN + 1, M.set iN x, by omega, by go_num, by go_num, by omega, by simpa using hML, ?_, ?_, ?_, HM.out.2.2.2.setCell (p := ⟨b, off + iN, none⟩) (fun _ => rfl) _⟩
              · rw [take_filter_succ HX.out.1, ← HM.out.1, List.take_add_one, List.take_set_of_le (Nat.le_refl _)]
                have : (x != a) = true := by simpa using HN.out
                simp [this, show iN < M.length from by omega]
              · rw [List.drop_set_of_lt (by omega), ← List.drop_drop, ← List.drop_drop, HM.out.2.1]
              · have := HM.out.2.2.1.set iN (.int .i64 x) (by simp; omega)
                have e1 : icells (M.set iN x) = (icells M).set iN (.int .i64 x) := by simp [icells, List.map_set]
                rw [e1]; exact this
        · obtain rfl : jN = l.length := by omega
          have hiL : iN < l.length := hij
          have hzv : ∀ w, (zeroValue 3).run Try.prog w = .ok (.int .i64 0) w := Try.zeroValue3
          have hcl : ∀ ty, (Builtin.clear_ #[24] ty #[.slice (some ⟨b, off + iN, none⟩) (l.length - iN) (cap - iN)]).run Try.prog wr = .ok (.tuple #[]) (wr.setCells b (off + iN) (List.replicate (l.length - iN) (.int .i64 0))) :=
            fun ty => Lib.run_clear_slice wr _ _ ty _ Try.underlying24 hzv rfl rfl b (off + iN) _ _ (by omega)
              (fun j hj => by
                have := hM.cells (iN + j) (.int .i64 (M[iN + j]'(by omega))) (by simp [icells, show iN + j < M.length from by omega])
                rw [Nat.add_assoc, this]; rfl)
              (fun j hj => hM.frozen _)
          obtain ⟨hs1, ht1⟩ := SliceAt.setCells (List.replicate (l.length - iN) (.int .i64 0)) iN hM (by simp; omega)
          have hfin : SliceAt (wr.setCells b (off + iN) (List.replicate (l.length - iN) (.int .i64 0))) 3 1 (.slice (some ⟨b, off, none⟩) iN cap) (icells (l.filter fun x => x != a)) := by
            have h1 := hs1.take iN (by omega)
            have e1 : icells (l.filter fun x => x != a) = (icells M).take iN := by
              have := HM.out.1
              rw [List.take_length] at this
              rw [← this, icells_take]
            rw [e1]
            have e2 : (List.take iN (icells M) ++ List.replicate (l.length - iN) (Value.int .i64 0) ++ List.drop (iN + (List.replicate (l.length - iN) (Value.int .i64 0)).length) (icells M)).take (iN * 1) = (icells M).take iN := by
              rw [Nat.mul_one, List.append_assoc]
              exact List.take_left' (by rw [List.length_take, icells_length]; omega)
            rw [e2] at h1
            exact h1
          have HF := Lib.hid (And.intro hfin (HM.out.2.2.2.trans ht1))
          have hcap0 : ¬ cap - iN = 0 := by omega
          have hcI : ((cap : Int) - (iN : Int)).toNat = cap - iN := by omega
          have hcJ : (((cap : Int) - (iN : Int)) == 0) = false := beq_eq_false_iff_ne.2 (by omega)
          have hlI : ((l.length : Int) - (iN : Int)).toNat = l.length - iN := by omega
          have hle1 : (iN : Int) ≤ (l.length : Int) := by omega
          have hle2 : (iN : Int) ≤ (cap : Int) := by omega
          clear hs1 ht1 hfin hM hzv
          go_wp2
          go_ret
          exact ⟨_, rfl, HF.out.1, HF.out.2.mono (fun k _ hk => by rw [hk]; rfl), rfl⟩
    · exact absurd hno HH.out.2
end Go.Sto
