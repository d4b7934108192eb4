/-
  covers, walked.
-/
import Derived.Test.YtahfoejffibahaaQStoAwake18
namespace Go.Sto
open Go.Own Go.RowKit Go.Proofs

theorem covers_calls {w : World} {v : Value} {n : Nat} {S : St} (ok : Ok n S) (h : SliceAt w 46 3 v (blkCells (blocks 0 S))) :
    Calls Try.prog 23 #[v, .int .i64 n] w fun e w' => e = .returned (.bool true) ∧ w' = w := by
  obtain ⟨a, cap, rfl, hn, hc, hcell⟩ := blocks_form h
  rw [blocks_length] at hn
  rw [blocks_length]
  have hlen := ok.len
  have HC := Lib.hid hcell
  have HO := Lib.hid ok
  clear hcell h ok
  go_enter Try.func23, Try.ntmps23
  go_wp2
  go_loopw [5, 6] (fun t i wr => ∃ j : Nat, j ≤ S.length ∧ i = .int .i64 j ∧ t = .int .i64 (sz (S.take j)) ∧ wr = w) (fun _ i _ => S.length - (intOf i).toNat)
  case atStart => exact ⟨0, by omega, rfl, rfl, rfl⟩
  case round =>
    obtain ⟨j, hj, rfl, rfl, rfl⟩ := hrel
    by_cases hlt : j < S.length
    · obtain ⟨b, hbj⟩ : ∃ b, S[j]? = some b := ⟨_, List.getElem?_eq_getElem hlt⟩
      obtain ⟨g, off, rfl, c0, c1, c2⟩ := HC.out j _ (blocks_get hbj)
      simp only [Nat.zero_add] at c0 c1 c2
      have hgd := HO.out.good b (List.mem_of_getElem? hbj)
      have hb2 := hgd.two
      have hsum : sz (S.take (j + 1)) = sz (S.take j) + b.size := by
        rw [List.take_add_one, hbj, sz_append]; simp [sz]
      have hle : sz (S.take (j + 1)) ≤ 32000 := by
        have h1 := HO.out.le
        have : sz S = sz (S.take (j + 1)) + sz (S.drop (j + 1)) := by rw [← sz_append, List.take_append_drop]
        omega
      have hd : decide (((b.size : Nat) : Int) < 2) = false := by simp; omega
      have hd2 : decide (b.size < 2) = false := by simp; omega
      have hev := hgd.even
      have he1 : (((b.size : Nat) : Int) % 2 == 1) = false := by simp; omega
      have he2 : (Int.tmod ((b.size : Nat) : Int) 2 == 1) = false := by rw [Int.tmod_eq_emod_of_nonneg (by omega)]; exact he1
      have hw : IntKind.i64.wrap (((sz (S.take j) : Nat) : Int) + b.size) = (sz (S.take j) : Int) + b.size := IntWalk.i64_in _ (by omega)
      have hw' : wrap64 (((sz (S.take j) : Nat) : Int) + b.size) = (sz (S.take j) : Int) + b.size := by unfold wrap64; omega
      obtain ⟨sj, hsj⟩ : ∃ m, sz (S.take j) = m := ⟨_, rfl⟩
      rw [hsj] at hsum c0 hw hw' ⊢
      have HS := Lib.hid (And.intro hsum hbj)
      clear hsum hsj
      have rel : ∀ z : Int, z = (sj : Int) + b.size → z = ((sz (S.take (j + 1)) : Nat) : Int) := fun z hz => by rw [HS.out.1, hz]; omega
      have HR := Lib.hid rel
      clear rel hle
      cases j with
      | zero =>
        clear hbj
        simp only [Nat.zero_mul, Nat.add_zero] at c0 c1 c2
        go_wp2
        go_roundw
        case rel => exact ⟨1, by omega, by go_num, by rw [HS.out.1]; go_num, trivial⟩
        case measure => simp [intOf]; omega
      | succ i =>
        obtain ⟨b', hbi⟩ : ∃ b, S[i]? = some b := ⟨_, List.getElem?_eq_getElem (by omega)⟩
        obtain ⟨g', off', e', -, -, d2⟩ := HC.out i _ (blocks_get hbi)
        cases e'
        simp only at d2
        have hnn := HO.out.norm.at_ hbi hbj
        have hp : decide (0 < ((i + 1 : Nat) : Int)) = true := decide_eq_true (by omega)
        have hs1 : IntKind.i64.wrap (((i + 1 : Nat) : Int) - 1) = (i : Int) := (IntWalk.i64_in _ (by omega)).trans (by omega)
        have hs2 : wrap64 (((i + 1 : Nat) : Int) - 1) = (i : Int) := by unfold wrap64; omega
        clear hbj hbi
        rcases hu : b.used with _ | _
        · rcases hu' : b'.used with _ | _
          · exact absurd ⟨hu', hu⟩ hnn
          · rw [hu] at c2
            rw [hu'] at d2
            simp only [Bool.not_false, Bool.not_true] at c2 d2
            clear hnn hu hu'
            go_wp2
            go_roundw
            case rel => exact ⟨i + 2, by omega, by go_num, by rw [HS.out.1]; go_num, trivial⟩
            case measure => simp [intOf]; omega
        · rw [hu] at c2
          simp only [Bool.not_true] at c2
          clear hnn hu
          go_wp2
          go_roundw
          case rel => exact ⟨i + 2, by omega, by go_num, by rw [HS.out.1]; go_num, trivial⟩
          case measure => simp [intOf]; omega
    · obtain rfl : j = S.length := by omega
      have hall : sz (S.take S.length) = n := by rw [List.take_length]; exact HO.out.sum
      go_wp2
      go_ret
      refine ⟨?_, by first | rfl | trivial⟩
      simp [HO.out.sum]
end Go.Sto
