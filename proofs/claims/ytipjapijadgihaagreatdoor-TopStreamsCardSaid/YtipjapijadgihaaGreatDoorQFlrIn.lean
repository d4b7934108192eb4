/-
  A file "in" on a new disk: the plain law.
-/
import Derived.Test.YtipjapijadgihaaGreatDoorQFlrRead
set_option linter.unusedVariables false

namespace Go.Flr
open Go.Own Go.RowKit Go.Proofs

def nIn : Bytes := [105, 110]

theorem byteAt_summed (B : Bytes) (hB : B.length = 128) (j : Nat) (h2 : j ≠ 2) (h3 : j ≠ 3) : byteAt (summedB B) j = byteAt B j := by
  unfold summedB
  have := sumN_lt B
  rw [byteAt_putAt _ _ _ _ (by omega) (by omega), if_neg (by omega), if_neg (by omega)]
theorem numAt_summed (B : Bytes) (hB : B.length = 128) (j : Nat) (h : 4 ≤ j) : numAt (summedB B) j = numAt B j := by
  unfold numAt
  rw [byteAt_summed B hB j (by omega) (by omega), byteAt_summed B hB (j + 1) (by omega) (by omega)]
theorem drop_summed (B : Bytes) : (summedB B).drop 5 = B.drop 5 := by
  unfold summedB putAt
  rw [List.drop_set_of_lt (by omega), List.drop_set_of_lt (by omega)]

/-! ### A data block -/

theorem dataBlk_count (pc : Bytes) (h : pc.length ≤ 123) : byteAt (dataBlk pc) 4 = pc.length := by
  unfold byteAt dataBlk
  rw [List.getD_eq_getElem?_getD, List.append_assoc, List.getElem?_append_left (by simp [zeroB_length]), List.getElem?_take, if_pos (by decide), List.getElem?_set]
  simp [zeroB_length]
  omega
theorem dataBlk_drop (pc : Bytes) (_h : pc.length ≤ 123) : ((dataBlk pc).drop 5).take pc.length = pc := by
  unfold dataBlk
  have e : (((zeroB 3).set 4 (UInt8.ofNat pc.length)).take 5).length = 5 := by simp [zeroB_length]
  rw [List.append_assoc, List.drop_append, List.drop_of_length_le (by omega), e]
  simp
theorem pieceOf_data (pc : Bytes) (h : pc.length ≤ 123) : pieceOf (summedB (dataBlk pc)) = pc := by
  unfold pieceOf
  rw [byteAt_summed _ (dataBlk_length pc h) 4 (by decide) (by decide), dataBlk_count pc h, drop_summed, dataBlk_drop pc h]

theorem pieces_all (data : Bytes) : ∀ n, (List.range n).flatMap (pieceL data) = data.take (n * 123)
  | 0 => by simp
  | n + 1 => by
    rw [List.range_succ, List.flatMap_append, pieces_all data n]
    simp only [List.flatMap_cons, List.flatMap_nil, List.append_nil]
    unfold pieceL
    rw [Nat.succ_mul, List.take_add]

/-! ### The numbers of a file's block -/

/-- The blocks in use come one behind the other. -/
def Seq1 (fr : List Nat) (n : Nat) : Prop := ∀ i, i ≤ n → fr.getD i 0 = i + 1

theorem putDk_at {D : List Bytes} {data : Bytes} {fr : List Nat} {n : Nat} (hs : Seq1 fr n) : ∀ i, i ≤ n → i < D.length → ∀ k, atD (putDk D data fr i) k = if 1 ≤ k ∧ k ≤ i then summedB (dataBlk (pieceL data (k - 1))) else atD D k
  | 0, _, _, k => by unfold putDk; rw [if_neg (by omega)]
  | i + 1, hi, hd, k => by
    unfold putDk
    rw [hs i (by omega), atD_set _ _ _ _ (by rw [putDk_length]; omega), putDk_at hs i (by omega) (by omega) k]
    by_cases e : k = i + 1
    · subst e; rw [if_pos rfl, if_pos ⟨by omega, by omega⟩]; rfl
    · rw [if_neg e]
      by_cases h : 1 ≤ k ∧ k ≤ i
      · rw [if_pos h, if_pos ⟨h.1, by omega⟩]
      · rw [if_neg h, if_neg (by omega)]

theorem putF_byte {F0 : Bytes} {fr : List Nat} {n : Nat} (hs : Seq1 fr n) (hF : F0.length = 128) (hn : n ≤ 40) : ∀ i, i ≤ n → ∀ j, j < 37 → byteAt (putF F0 fr i) j = byteAt F0 j
  | 0, _, _, _ => rfl
  | i + 1, hi, j, hj => by
    unfold putF
    rw [hs i (by omega), byteAt_putAt _ _ _ _ (by rw [putF_length]; omega) (by omega), if_neg (by omega), if_neg (by omega)]
    exact putF_byte hs hF hn i (by omega) j hj
theorem putF_num {F0 : Bytes} {fr : List Nat} {n : Nat} (hs : Seq1 fr n) (hF : F0.length = 128) (hn : n ≤ 40) : ∀ i, i ≤ n → ∀ k, k < i → numAt (putF F0 fr i) (37 + 2 * k) = k + 1
  | 0, _, k, hk => by omega
  | i + 1, hi, k, hk => by
    unfold putF
    rw [hs i (by omega)]
    by_cases e : k = i
    · subst e; exact numAt_putAt _ _ _ (by rw [putF_length]; omega) (by omega)
    · rw [numAt_putAt_ne _ _ _ _ (by rw [putF_length]; omega) (by omega) (by omega)]
      exact putF_num hs hF hn i (by omega) k (by omega)

/-- A file's block ahead of its size. -/
def headIn : Bytes := setName (putAt (zeroB 2) 4 0) nIn
theorem headIn_bytes : headIn.length = 128 ∧ byteAt headIn 0 = 2 ∧ byteAt headIn 6 = 0 ∧ byteAt headIn 7 = 0 ∧ byteAt headIn 10 = 2 ∧ byteAt headIn 11 = 105 ∧ byteAt headIn 12 = 110 := by decide +kernel
theorem fileIn (size : Nat) : fileB0 0 0 nIn size = putAt headIn 35 size := rfl

structure InAt (D : List Bytes) (n : Nat) (data : Bytes) : Prop where
  len : D.length = 64
  root : numAt (atD D 0) 47 = n + 1
  next : numAt (atD D (n + 1)) 6 = 0
  name : nameOf (atD D (n + 1)) = nIn
  kind : kindOf (atD D (n + 1)) = 2
  size : numAt (atD D (n + 1)) 35 = data.length
  nums : dataOf (atD D (n + 1)) = (List.range n).map (· + 1)
  cnt : ∀ x ∈ dataOf (atD D (n + 1)), x < D.length ∧ byteAt (atD D x) 4 ≤ 123
  bytes : bytesOf D (dataOf (atD D (n + 1))) = data

theorem newD_at0 : atD (newD 64) 0 = summedB (zeroB 1) := by
  unfold newD; rw [atD_set _ _ _ _ (by simp), if_pos rfl]
theorem newD_length : (newD 64).length = 64 := by simp [newD]
theorem zeroB1_byte (j : Nat) (h : 1 ≤ j) : byteAt (zeroB 1) j = 0 := by
  obtain ⟨k, rfl⟩ : ∃ k, j = k + 1 := ⟨j - 1, by omega⟩
  unfold byteAt zeroB
  rw [List.getD_eq_getElem?_getD, List.getElem?_cons_succ, List.getElem?_replicate]
  split <;> rfl
theorem root_num (j : Nat) (h : 4 ≤ j) : numAt (atD (newD 64) 0) j = 0 := by
  rw [newD_at0, numAt_summed _ (zeroB_length 1) j h]
  unfold numAt
  rw [zeroB1_byte j (by omega), zeroB1_byte (j + 1) (by omega)]

theorem flatMap_eq {α β : Type} {f g : α → List β} : ∀ {l : List α}, (∀ x ∈ l, f x = g x) → l.flatMap f = l.flatMap g
  | [], _ => rfl
  | x :: r, h => by
    rw [List.flatMap_cons, List.flatMap_cons, h x (List.mem_cons_self ..), flatMap_eq fun y hy => h y (List.mem_cons_of_mem _ hy)]

theorem two_bytes {l : Bytes} (hl : l.length = 2) (h0 : ∀ h : 0 < l.length, (l[0]'h).toNat = 105) (h1 : ∀ h : 1 < l.length, (l[1]'h).toNat = 110) : l = nIn := by
  match l, hl with
  | [a, b], _ =>
    have ha : a = 105 := UInt8.toNat_inj.1 (h0 (Nat.zero_lt_succ _))
    have hb : b = 110 := UInt8.toNat_inj.1 (h1 (Nat.succ_lt_succ (Nat.zero_lt_succ _)))
    rw [ha, hb]; rfl

theorem in_at {data : Bytes} {fr : List Nat} {n : Nat} (hn : n = piecesN data.length) (hl : data.length ≤ 2000) (hs : Seq1 fr n) : InAt (pointD (putD (newD 64) (fileB0 0 0 nIn data.length) data fr n) 0 47 (n + 1)) n data := by
  have hn17 : n ≤ 17 := by rw [hn]; unfold piecesN; omega
  have hnl : data.length ≤ n * 123 := by rw [hn]; unfold piecesN; omega
  obtain ⟨F, hF⟩ : ∃ F, putF (fileB0 0 0 nIn data.length) fr n = F := ⟨_, rfl⟩
  have h0l : (fileB0 0 0 nIn data.length).length = 128 := fileB0_length 0 0 nIn _ (by decide)
  have hFl : F.length = 128 := by rw [← hF, putF_length, h0l]
  have hFb : ∀ j, j < 37 → byteAt F j = byteAt (putAt headIn 35 data.length) j := fun j hj => by rw [← hF, putF_byte hs h0l (by omega) n (Nat.le_refl _) j hj]; rfl
  have hhb : ∀ j, j < 35 → byteAt F j = byteAt headIn j := fun j hj => by
    rw [hFb j (by omega), byteAt_putAt _ _ _ _ (by rw [headIn_bytes.1]; decide) (by omega), if_neg (by omega), if_neg (by omega)]
  have hsz : numAt F 35 = data.length := by
    have e : numAt F 35 = numAt (putAt headIn 35 data.length) 35 := by unfold numAt; rw [hFb 35 (by omega), hFb 36 (by omega)]
    rw [e]; exact numAt_putAt _ _ _ (by rw [headIn_bytes.1]; decide) (by omega)
  have hD1 : putD (newD 64) (fileB0 0 0 nIn data.length) data fr n = (putDk (newD 64) data fr n).set (n + 1) (summedB F) := by unfold putD; rw [hs n (Nat.le_refl _), hF]
  have hlen1 : ((putDk (newD 64) data fr n).set (n + 1) (summedB F)).length = 64 := by rw [List.length_set, putDk_length, newD_length]
  have hlk : (putDk (newD 64) data fr n).length = 64 := by rw [putDk_length, newD_length]
  have hat : ∀ k, k ≠ 0 → atD (pointD (putD (newD 64) (fileB0 0 0 nIn data.length) data fr n) 0 47 (n + 1)) k = if k = n + 1 then summedB F else atD (putDk (newD 64) data fr n) k := fun k hk => by
    unfold pointD
    rw [hD1, atD_set _ _ _ _ (by rw [hlen1]; decide), if_neg hk, atD_set _ _ _ _ (by rw [hlk]; omega)]
  have hatF := hat (n + 1) (by omega)
  rw [if_pos rfl] at hatF
  have hatd : ∀ i, i < n → atD (pointD (putD (newD 64) (fileB0 0 0 nIn data.length) data fr n) 0 47 (n + 1)) (i + 1) = summedB (dataBlk (pieceL data i)) := fun i hi => by
    rw [hat (i + 1) (by omega), if_neg (by omega), putDk_at hs n (Nat.le_refl _) (by rw [newD_length]; omega) (i + 1), if_pos ⟨by omega, by omega⟩]
    rfl
  have hat0 : atD (pointD (putD (newD 64) (fileB0 0 0 nIn data.length) data fr n) 0 47 (n + 1)) 0 = summedB (putAt (summedB (zeroB 1)) 47 (n + 1)) := by
    unfold pointD
    rw [hD1, atD_set _ _ _ _ (by rw [hlen1]; decide), if_pos rfl, atD_set _ _ _ _ (by rw [hlk]; omega), if_neg (by omega), putDk_at hs n (Nat.le_refl _) (by rw [newD_length]; omega) 0, if_neg (by omega), newD_at0]
  have hnums : dataOf (atD (pointD (putD (newD 64) (fileB0 0 0 nIn data.length) data fr n) 0 47 (n + 1)) (n + 1)) = (List.range n).map (· + 1) := by
    rw [hatF]
    unfold dataOf
    rw [numAt_summed _ hFl 35 (by decide), hsz, ← hn]
    apply List.map_congr_left
    intro i hi
    rw [List.mem_range] at hi
    rw [numAt_summed _ hFl _ (by omega), ← hF]
    exact putF_num hs h0l (by omega) n (Nat.le_refl _) i hi
  have hpl : ∀ i, (pieceL data i).length ≤ 123 := fun i => by rw [pieceL_length]; omega
  refine ⟨by unfold pointD; rw [List.length_set, hD1, hlen1], ?_, ?_, ?_, ?_, ?_, hnums, ?_, ?_⟩
  · rw [hat0, numAt_summed _ (by simp [zeroB_length]) 47 (by decide)]
    exact numAt_putAt _ _ _ (by simp [zeroB_length]) (by omega)
  · rw [hatF, numAt_summed _ hFl 6 (by decide)]
    unfold numAt
    rw [hhb 6 (by omega), hhb 7 (by omega), headIn_bytes.2.2.1, headIn_bytes.2.2.2.1]
  · rw [hatF]
    have hb10 : byteAt (summedB F) 10 = 2 := by rw [byteAt_summed _ hFl 10 (by decide) (by decide), hhb 10 (by omega), headIn_bytes.2.2.2.2.1]
    have hsl : (summedB F).length = 128 := by rw [summedB_length, hFl]
    have hl2 : (nameOf (summedB F)).length = 2 := by rw [nameOf_length _ hsl, hb10]; rfl
    refine two_bytes hl2 (fun h => ?_) (fun h => ?_)
    · rw [nameOf_get (summedB F) hsl 0 h, byteAt_summed _ hFl _ (by decide) (by decide), hhb 11 (by omega), headIn_bytes.2.2.2.2.2.1]
    · rw [nameOf_get (summedB F) hsl 1 h, byteAt_summed _ hFl _ (by decide) (by decide), hhb 12 (by omega), headIn_bytes.2.2.2.2.2.2]
  · rw [hatF]
    unfold kindOf
    rw [byteAt_summed _ hFl 0 (by decide) (by decide), hhb 0 (by omega), headIn_bytes.2.1]
  · rw [hatF, numAt_summed _ hFl 35 (by decide), hsz]
  · intro x hx
    rw [hnums, List.mem_map] at hx
    obtain ⟨i, hi, rfl⟩ := hx
    rw [List.mem_range] at hi
    refine ⟨by unfold pointD; rw [List.length_set, hD1, hlen1]; omega, ?_⟩
    rw [hatd i hi, byteAt_summed _ (dataBlk_length _ (hpl i)) 4 (by decide) (by decide), dataBlk_count _ (hpl i)]
    exact hpl i
  · rw [hnums]
    unfold bytesOf
    have e : ((List.range n).map (· + 1)).flatMap (fun k => pieceOf (atD (pointD (putD (newD 64) (fileB0 0 0 nIn data.length) data fr n) 0 47 (n + 1)) k)) = (List.range n).flatMap (pieceL data) := by
      rw [List.flatMap_map]
      refine flatMap_eq fun i hi => ?_
      rw [List.mem_range] at hi
      rw [hatd i hi, pieceOf_data _ (hpl i)]
    rw [e, pieces_all, List.take_of_length_le hnl]
end Go.Flr

/-
  The filer as TopStreams uses it: a put of "in" on a new disk, read again.
-/
namespace Go.Flr
open Go.Own Go.RowKit Go.Proofs

theorem split_in : splitL nIn = [] ++ [nIn] := by decide +kernel
theorem names_in : ∀ x ∈ splitL nIn, isNameL x = true := by
  intro x hx
  rw [split_in] at hx
  simp at hx
  subst hx
  decide +kernel
theorem chain_in : 35 + 2 * chainN nIn = 47 := by decide +kernel
def us64 : List Bool := (List.replicate 64 false).set 0 true
theorem us64_length : us64.length = 64 := by simp [us64]
theorem free64 : freeTo us64 64 = (List.range 63).map (· + 1) := by decide +kernel

theorem way_new : Way (newD 64) nIn nIn [] 0 0 47 [] :=
  ⟨by decide, by decide, split_in, names_in, by rw [newD_length]; decide, by rw [chain_in]; exact root_num 47 (by decide), by rw [chain_in]; rfl⟩
theorem way_old {D : List Bytes} {n : Nat} {data : Bytes} (h : InAt D n data) (hn : n ≤ 17) : Way D nIn nIn [] 0 0 47 [n + 1] :=
  ⟨by decide, by decide, split_in, names_in, by rw [h.len]; decide, by rw [chain_in]; exact ⟨h.root, by omega, by rw [h.len]; omega, h.next⟩, by rw [chain_in]; unfold findP; rw [if_pos h.name]⟩

section
variable {w0 w w' w1 : World} {d g : Nat} {D : List Bytes} {L : List (Nat × Bytes)} {lv : Value}

theorem do_in (h : DI w0 d g (newD 64) L (.slice none 0 0) w) (hL : L.length ≤ 50000) {data : Bytes} {dv : Value} (hdv : RdAt w dv (bcells data)) (hdo : ∀ k, dv.ownBlock = some k → k ≠ d ∧ k ≠ g) (hl : data.length ≤ 2000) :
    Calls Tryz.prog 6 #[pt d, .agg #[.int .i64 1, .string (bs nIn), .string ⟨#[]⟩, dv]] w fun e w' => (∃ k : Int, e = .returned (.tuple #[.int .i64 k, .int .i64 0])) ∧ ∃ D2 L2 lv2, InAt D2 (piecesN data.length) data ∧ DI w0 d g D2 L2 lv2 w' ∧ DStep d g w (.slice none 0 0) w' lv2 := by
  obtain ⟨a, c, rfl, -, -⟩ := hdv.form
  have hn17 : piecesN data.length ≤ 17 := by unfold piecesN; omega
  have hb0 : Bare (atD (newD 64) 0) := fun c _ => root_num _ (by omega)
  have hk0 : kindOf (atD (newD 64) 0) ≠ 2 := by
    rw [newD_at0]; unfold kindOf; rw [byteAt_summed _ (zeroB_length 1) 0 (by decide) (by decide)]; decide
  have hfl : (freeTo us64 (newD 64).length).length = 63 := by rw [newD_length, free64]; simp
  have hfr : ∀ i, i ≤ piecesN data.length → ((freeTo us64 (newD 64).length).take (piecesN data.length + 1)).getD i 0 = i + 1 := fun i hi => by
    rw [newD_length, free64, List.getD_eq_getElem?_getD, List.getElem?_take, if_pos (by omega), List.getElem?_map, List.getElem?_range (by omega)]
    rfl
  have hfr2 : (freeTo us64 (newD 64).length).getD (piecesN data.length) 0 = piecesN data.length + 1 := by
    rw [newD_length, free64, List.getD_eq_getElem?_getD, List.getElem?_map, List.getElem?_range (by omega)]
    rfl
  have hin := in_at (data := data) (fr := (freeTo us64 (newD 64).length).take (piecesN data.length + 1)) rfl hl hfr
  refine (do_put (D' := pointD (putD (newD 64) (fileB0 0 0 nIn data.length) data ((freeTo us64 (newD 64).length).take (piecesN data.length + 1)) (piecesN data.length)) 0 47 (piecesN data.length + 1)) h (p := nIn) (t := ⟨#[]⟩) (fun wr hT => ?_) rfl).mono ?_
  · have := put_new (h.new hT) way_new (fun wr v h hv => way_nil h hv) (root_num 47 (by decide)) (hdv.turn hT (fun _ _ e => e))
      (fun k hk e => by
        rcases e with e | e | e
        · exact (hdo k hk).1 e
        · exact (hdo k hk).2 e
        · simp [Value.ownBlock] at e) (by omega) (us := us64) (by rw [us64_length, newD_length]) (fun wr h => by
          have := used_bare h hb0 hk0
          rw [newD_length] at this
          exact this) (by rw [hfl]; omega) hL
    rw [hfr2] at this
    exact this
  · rintro e w2 ⟨h1, lv2, L2, h2, h3⟩
    exact ⟨h1, _, L2, lv2, hin, h2, h3⟩

theorem read_in (h : DI w0 d g D L lv w) {data : Bytes} (hi : InAt D (piecesN data.length) data) (hl : data.length ≤ 2000) :
    Calls Tryz.prog 7 #[pt d, .string (bs nIn)] w fun e w' => ∃ v, e = .returned (.tuple #[v, .int .i64 0]) ∧ Own1 w w' 5 v (bcells data) := by
  have hn17 : piecesN data.length ≤ 17 := by unfold piecesN; omega
  have := read_ok h (way_old hi hn17) (fun wr v h hv => way_nil h hv) hi.root (by omega) (by rw [hi.len]; omega) hi.kind (by rw [hi.size]; omega) hi.cnt
  rw [hi.bytes] at this
  exact this
end
end Go.Flr
