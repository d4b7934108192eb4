/-
  bytes, Read: the bytes of a file.
-/
import Derived.Test.YtipjapijadgihaaGreatDoorQFlrThere
set_option linter.unusedVariables false

namespace Go.Flr
open Go.Own Go.RowKit Go.Proofs

/-- The bytes of a data block; of data blocks. -/
def pieceOf (B : Bytes) : Bytes := (B.drop 5).take (byteAt B 4)
def bytesOf (D : List Bytes) (ns : List Nat) : Bytes := ns.flatMap fun k => pieceOf (atD D k)
theorem bytesOf_snoc (D : List Bytes) (ns : List Nat) (i x : Nat) (hx : ns[i]? = some x) : bytesOf D (ns.take (i + 1)) = bytesOf D (ns.take i) ++ pieceOf (atD D x) := by
  obtain ⟨hi, e⟩ := List.getElem?_eq_some_iff.1 hx
  unfold bytesOf
  rw [List.take_succ_eq_append_getElem hi, List.flatMap_append, e]
  simp
theorem bytesOf_length_le (D : List Bytes) : ∀ (ns : List Nat), (bytesOf D ns).length ≤ ns.length * 255
  | [] => Nat.le_refl _
  | k :: r => by
    have := bytesOf_length_le D r
    have h2 : (pieceOf (atD D k)).length ≤ 255 := by unfold pieceOf; rw [List.length_take]; have := byteAt_lt (atD D k) 4; omega
    unfold bytesOf at *
    rw [List.flatMap_cons, List.length_append, List.length_cons]
    omega

section
variable {w0 w w' w1 : World} {d g : Nat} {D : List Bytes} {L : List (Nat × Bytes)} {lv : Value}

def BytesI (D : List Bytes) (ns : List Nat) (w1 : World) (N gk : Nat) (ov iv : Value) (wr : World) : Prop :=
  ∃ i, gk + i = N ∧ iv = .int .i64 (i : Nat) ∧ Own1 w1 wr 5 ov (bcells (bytesOf D (ns.take i)))

set_option maxRecDepth 10000 in
set_option maxHeartbeats 4000000 in
theorem bytes_calls (h : DI w0 d g D L lv w) {k : Nat} (hk : k < D.length) (hs : numAt (atD D k) 35 ≤ 4920) (hns : ∀ x ∈ dataOf (atD D k), x < D.length ∧ byteAt (atD D x) 4 ≤ 123) :
    Calls Tryz.prog 30 #[pt d, .int .i64 k] w fun e w' => ∃ v, e = .returned v ∧ Own1 w w' 5 v (bcells (bytesOf D (dataOf (atD D k)))) := by
  obtain ⟨M, hM⟩ : ∃ M, D.length = M := ⟨_, rfl⟩
  have hkM : k < M := by omega
  have hdb := h.db
  rw [hM] at hdb
  obtain ⟨c0, -, -, -, -⟩ := disk_cells hdb
  have HD := Lib.hid (data_calls (h.range hk) (h.len.at k) hs)
  have hnl : (dataOf (atD D k)).length ≤ 40 := by rw [dataOf_length]; exact piecesN_le hs
  obtain ⟨ns, hn⟩ : ∃ ns, dataOf (atD D k) = ns := ⟨_, rfl⟩
  rw [hn] at HD hns hnl ⊢
  obtain ⟨N, hN⟩ : ∃ N, ns.length = N := ⟨_, rfl⟩
  have hN40 : N ≤ 40 := by omega
  have H := Lib.hid (And.intro h (And.intro hns (And.intro hnl (And.intro hN hM))))
  clear h hk hs hns hn hdb hnl hM
  go_enter Tryz.func30, Tryz.ntmps30
  go_wp2_with fail
  refine HD.out.mono ?_
  rintro e1 w1 ⟨v, rfl, hO⟩
  obtain ⟨ua, uc, rfl, -, -⟩ := ints_form hO.at_
  rw [ncells_length, hN] at hO ⊢
  have HO := Lib.hid (And.intro hO hN)
  have HI := Lib.hid (show BytesI D ns w1 N N (.slice none 0 0) (.int .i64 0) w1 from ⟨0, rfl, rfl, SliceAt.nil _ _ _, fun k hk => by simp [Value.ownBlock] at hk, Turn.refl _ _⟩)
  clear hO HD c0 hN
  go_wp2_with fail
  go_loopg [5, 17] (N) (fun gk ov iv wr => BytesI D ns w1 N gk ov iv wr)
  case atStart => exact HI.out
  case round =>
    obtain ⟨i, hgk, rfl, hF⟩ := hrel
    have hT := hF.turn
    have hD := (H.out.1.new HO.out.1.turn).new hT
    have hdb := hD.db
    rw [H.out.2.2.2.2] at hdb
    obtain ⟨c0, -, -, -, -⟩ := disk_cells hdb
    obtain ⟨oa, oc, rfl, -, -⟩ := bytes_form hF.at_
    rw [bcells_length] at hF ⊢
    obtain ⟨ol, hol⟩ : ∃ ol, (bytesOf D (ns.take i)).length = ol := ⟨_, rfl⟩
    rw [hol] at hF ⊢
    by_cases hi : i < N
    · have hil : i < ns.length := by rw [HO.out.2]; exact hi
      obtain ⟨x, hx⟩ : ∃ x, ns[i]? = some x := ⟨_, List.getElem?_eq_getElem hil⟩
      have hxm := H.out.2.1 x (List.mem_of_getElem? hx)
      obtain ⟨ub, uo, rfl⟩ := HO.out.1.at_.addr (by omega)
      have hc := (HO.out.1.at_.turn hT (fun _ _ e => e)).cells i (.int .i64 (x : Nat)) (by unfold ncells; rw [List.getElem?_map, hx]; rfl)
      have hxM : x < M := by have := H.out.2.2.2.2; omega
      have hol2 : ol ≤ 10200 := by
        have := bytesOf_length_le D (ns.take i)
        have h2 : (ns.take i).length ≤ 40 := by rw [List.length_take]; have := H.out.2.2.1; omega
        omega
      have hBx := Lib.hid (box_new wr zeros)
      obtain ⟨xb, hxb⟩ : ∃ xb, wr.heap.size = xb := ⟨_, rfl⟩
      have HM := Lib.hid (And.intro hF (And.intro hD (And.intro hgk (And.intro hol (And.intro hx (And.intro hxm (And.intro hil (And.intro hol2 hxb))))))))
      clear hF hD hgk hol hx hxm hil hdb hT hol2 hxb
      go_upto_region 6 with (first
        | refine wpList_load_block rfl _ rfl rfl (HM.out.2.1.len.at x) (HM.out.2.1.range HM.out.2.2.2.2.2.1.1) ?_
        | refine wpList_alloc_block rfl rfl ?_
        | (refine wpList_store_box rfl _ _ rfl rfl rfl hBx.out zeros_length (HM.out.2.1.len.at x) ?_
           intro w13 b13 t13 z13
           have H13 := Lib.hid (And.intro b13 (And.intro t13 z13))
           clear b13 t13 z13))
      clear c0 hc
      rw [HM.out.2.2.2.2.2.2.2.2] at H13 ⊢
      have hxb := HM.out.2.2.2.2.2.2.2.2
      have T13 : Turn (fun _ => False) wr w13 := by
        have t7 := H13.out.2.1
        have a7 := (Turn.refl (fun _ => False) wr).alloc (.cells (bcells zeros).toArray 63)
        exact ⟨t7.os.trans a7.os, t7.tape.trans a7.tape, t7.output.trans a7.output, Nat.le_trans a7.size t7.size, fun k hk _ => by
          rw [t7.block k (by simp; omega) (by omega)]; exact a7.block k hk (fun e => e)⟩
      have hBl := HM.out.2.1.len.at x
      obtain ⟨B, hB⟩ : ∃ B, atD D x = B := ⟨_, rfl⟩
      have hcnt := HM.out.2.2.2.2.2.1.2
      rw [hB] at hcnt hBl
      have bx := H13.out.1
      rw [hB] at bx
      have c4 := cell_byte bx.range 4 (by omega)
      rw [Nat.zero_add] at c4
      obtain ⟨cnt, hc4⟩ : ∃ cnt, byteAt B 4 = cnt := ⟨_, rfl⟩
      rw [hc4] at c4 hcnt
      have hpo : pieceOf B = (B.drop 5).take cnt := by unfold pieceOf; rw [hc4]
      have hpl : (pieceOf B).length = cnt := by rw [hpo, List.length_take, List.length_drop]; omega
      have hsrc : Src w13 1 (.slice (some ⟨xb, 5, none⟩) cnt 123) cnt (bcells (pieceOf B)) := by
        refine Src.slice _ _ _ _ (by rw [bcells_length, hpl, Nat.mul_one]) fun j u hu => ?_
        rw [Addr.add_lit]
        have : (bcells B)[5 + j]? = some u := by
          rw [hpo, ← bcells_take, ← bcells_drop, List.getElem?_take] at hu
          split at hu
          · rw [List.getElem?_drop] at hu; exact hu
          · cases hu
        have := bx.range _ u this
        rw [Nat.zero_add] at this
        exact this
      have hE : SliceAt w13 5 1 (.slice oa ol oc) (bcells (bytesOf D (ns.take i))) := HM.out.1.at_.turn T13 (fun _ _ e => e)
      have HE := Lib.hid (And.intro hE (And.intro hsrc (And.intro T13 (And.intro hpl hB))))
      have hcw : IntKind.i64.wrap (5 + (cnt : Int)) = 5 + (cnt : Int) := IntWalk.i64_in _ (by omega)
      have b1 : 5 + (cnt : Int) ≤ 128 := by omega
      have b2 : (5 : Int) ≤ 5 + (cnt : Int) := by omega
      have e1 : (5 + (cnt : Int)).toNat = 5 + cnt := by omega
      have e2 : 5 + cnt - 5 = cnt := by omega
      have hll : (bcells (bytesOf D (ns.take i))).length + (bcells (pieceOf B)).length ≤ 100000 := by
        rw [bcells_length, bcells_length, hpl, HM.out.2.2.2.1]; have := HM.out.2.2.2.2.2.2.2.1; omega
      have HLL := Lib.hid hll
      clear hE hsrc T13 hpl hpo hxb hBl hB bx hc4 hll
      go_wp2_with (at_builtin; refine wpList_append _ rfl _ _ 30 30 rfl 5 1 1 (.int .u8 0) Tryz.underlying30 (.inr ⟨_, Tryz.underlying30⟩) elemU8 (.slice oa ol oc) _ rfl HE.out.1 _ _ _ rfl HE.out.2.1 (bcells_one _) (by have := HLL.out; omega) (by have := HLL.out; omega) ?_; intro v' w5 hv' ht hw hn; clear hn; obtain ⟨va, vn, vc, rfl, -⟩ := hv'.form; have hF := Lib.hid (And.intro hv' (And.intro ht hw)); clear hv' ht hw)
      have hgk := HM.out.2.2.1
      go_roundg (gk - 1)
      case rel =>
        have hsn := HM.out.1.snoc HE.out.2.2.1 hF.out.1 hF.out.2.1 hF.out.2.2
        rw [← bcells_append, ← HE.out.2.2.2.2, ← bytesOf_snoc D ns i x HM.out.2.2.2.2.1] at hsn
        exact ⟨i + 1, by omega, by rfl, hsn⟩
      case measure => omega
    · have hi2 : ns.take i = ns := List.take_of_length_le (by have := HO.out.2; omega)
      rw [hi2] at hF
      have HF := Lib.hid hF
      clear hF hi2 hol hT hD hdb c0
      go_wp2_with fail
      go_ret
      have h1 := HO.out.1.turn
      refine ⟨_, rfl, HF.out.at_, fun k hk => ?_, h1.trans HF.out.turn⟩
      have := HF.out.own k hk
      have := h1.size
      omega

set_option maxRecDepth 10000 in
set_option maxHeartbeats 4000000 in
theorem read_ok (h : DI w0 d g D L lv w) {p s : Bytes} {pre : List Bytes} {dir pb pa k : Nat} {ks : List Nat} (hw : Way D p s pre dir pb pa ks)
    (hway : ∀ wr v, DI w0 d g D L lv wr → SliceAt wr 9 1 v (scells pre) → Calls Tryz.prog 93 #[pt d, v] wr fun e w' => e = .returned (.tuple #[.int .i64 (dir : Nat), .nilIface]) ∧ Turn (fun _ => False) wr w')
    (hk : numAt (atD D pb) pa = k) (hk0 : k ≠ 0) (hkl : k < D.length) (hkd : kindOf (atD D k) = 2) (hs : numAt (atD D k) 35 ≤ 4920) (hns : ∀ x ∈ dataOf (atD D k), x < D.length ∧ byteAt (atD D x) 4 ≤ 123) :
    Calls Tryz.prog 7 #[pt d, .string (bs p)] w fun e w' => ∃ v, e = .returned (.tuple #[v, .int .i64 0]) ∧ Own1 w w' 5 v (bcells (bytesOf D (dataOf (atD D k)))) := by
  obtain ⟨M, hM⟩ : ∃ M, D.length = M := ⟨_, rfl⟩
  have hkM : k < M := by omega
  have HR := Lib.hid (reach_ok h hw hway hk hk0)
  have H := Lib.hid (And.intro h (And.intro hkl (And.intro hkd (And.intro hs (And.intro hns hM)))))
  clear h hw hway hk hk0 hkl hkd hs hns hM
  go_enter Tryz.func7, Tryz.ntmps7
  go_wp2_with fail
  refine HR.out.mono ?_
  rintro e1 w1 ⟨rfl, T1⟩
  have hD1 := H.out.1.new T1
  have hdb := hD1.db
  rw [H.out.2.2.2.2.2] at hdb
  obtain ⟨c0, -, -, -, -⟩ := disk_cells hdb
  have hkc := kind_calls (hD1.range H.out.2.1) (hD1.len.at k)
  rw [H.out.2.2.1] at hkc
  have HK := Lib.hid hkc
  have HB := Lib.hid (bytes_calls hD1 H.out.2.1 H.out.2.2.2.1 H.out.2.2.2.2.1)
  have HT := Lib.hid T1
  clear T1 hD1 hdb hkc
  go_wp2_with fail
  refine HK.out.mono ?_
  rintro e2 w2 ⟨rfl, rfl⟩
  clear c0
  go_wp2_with fail
  refine HB.out.mono ?_
  rintro e3 w3 ⟨v, rfl, hO⟩
  have HO := Lib.hid hO
  clear hO
  go_wp2_with fail
  go_ret2
  refine ⟨v, rfl, HO.out.at_, fun k hk => ?_, HT.out.trans HO.out.turn⟩
  have := HO.out.own k hk
  have := HT.out.size
  omega
end
end Go.Flr
