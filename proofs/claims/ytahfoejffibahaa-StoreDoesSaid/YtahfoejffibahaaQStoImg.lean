/-
  Image, walked: a store's bytes.
-/
import Derived.Deep.CutRange
import Derived.Deep.LoopGhost
import Derived.Laws.BitsAllLaws
import Derived.Laws.EntriesVeiled
import Derived.Test.YtahfoejffibahaaQStoGrow2
import Derived.Test.YtahfoejffibahaaQOwnRegionHIn
set_option linter.unusedVariables false

namespace Go.Sto
open Go.Own Go.RowKit Go.Proofs Go.Shelf
attribute [local go_sem] Oper.semAt_some

def bcells (l : List Int) : List Value := l.map (Value.int .u8)
theorem bcells_length (l : List Int) : (bcells l).length = l.length := List.length_map _
theorem bcells_append (a b : List Int) : bcells (a ++ b) = bcells a ++ bcells b := List.map_append

/-- A number in eight bytes, the highest one first: its first i bytes. -/
def byteAt (x : Int) (i : Nat) : Int := (x / (2 : Int) ^ (56 - 8 * i)) % 256
def encTo (x : Int) (i : Nat) : List Int := (List.range i).map (byteAt x)
def enc8 (x : Int) : List Int := encTo x 8
theorem encTo_length (x : Int) (i : Nat) : (encTo x i).length = i := by simp [encTo]
theorem enc8_length (x : Int) : (enc8 x).length = 8 := encTo_length x 8
theorem encTo_succ (x : Int) (i : Nat) : encTo x (i + 1) = encTo x i ++ [byteAt x i] := by simp [encTo, List.range_succ]

/-- The bytes that were written so far lie behind the pointer. -/
def OUT (B ob pf : Nat) (fo : Obj) (L : List Int) (w : World) : Prop :=
  ∃ v, w.cell? ⟨ob, 0, none⟩ = some v ∧ w.frozen? ⟨ob, 0, none⟩ = false ∧ SliceAt w 5 1 v (bcells L) ∧ (∀ k, v.ownBlock = some k → B ≤ k ∧ k ≠ ob ∧ k ≠ pf) ∧ pf ≠ ob ∧ w.heap[pf]? = some fo

theorem elemU8 : Elem Try.prog 5 1 1 (.int .u8 0) := Elem.mk' (by kernel_rfl) rfl (by decide)

set_option maxRecDepth 100000 in
set_option maxHeartbeats 4000000 in
theorem put8_calls {w : World} {B ob pf : Nat} {fo : Obj} {L : List Int} (h : OUT B ob pf fo L w) (hB : B ≤ ob) (hL : L.length ≤ 10000000000000) (x : Int) (_hx : -9223372036854775808 ≤ x ∧ x ≤ 9223372036854775807) :
    Calls Try.prog 52 #[.int .i64 x, .pointer (some ⟨ob, 0, none⟩)] w fun e w' => e = .returned (.tuple #[]) ∧ OUT B ob pf fo (L ++ enc8 x) w' ∧ Below B w w' ∧ KeepsOthers w w' := by
  have H := Lib.hid h
  clear h
  go_enter Try.func52, Try.ntmps52
  go_wp2
  go_loopg [3] (8) (fun k i wx => k ≤ 8 ∧ i = .int .i64 (8 * (k : Int) - 8) ∧ OUT B ob pf fo (L ++ encTo x (8 - k)) wx ∧ Below B w wx ∧ KeepsOthers w wx)
  case atStart => exact ⟨by omega, rfl, by simpa [encTo] using H.out, Below.refl _ _, KeepsOthers.refl _⟩
  case round =>
    obtain ⟨hk, rfl, hO, hBel, hKo⟩ := hrel
    have HO := Lib.hid (And.intro hO (And.intro hBel hKo))
    obtain ⟨v, hc, hf, hs, hov, hpo, hpf⟩ := hO
    obtain ⟨va, vn, vc, rfl, hvl, -⟩ := hs.form
    clear hBel hKo
    rcases Nat.eq_zero_or_pos gk with hk0 | hk0
    · subst hk0
      clear hc hf hs hov hvl hpo hpf
      go_wp2
      go_end0
      exact ⟨rfl, HO.out.1, HO.out.2⟩
    obtain ⟨j, rfl⟩ : ∃ j, gk = j + 1 := ⟨gk - 1, by omega⟩
    obtain ⟨s, hsj⟩ : ∃ s, 8 * j = s := ⟨_, rfl⟩
    have e1 : 8 * ((j + 1 : Nat) : Int) - 8 = (s : Nat) := by omega
    rw [e1]
    have hs56 : s ≤ 56 := by omega
    obtain ⟨d, hd⟩ : ∃ d, x / (2 : Int) ^ s % 256 = d := ⟨_, rfl⟩
    have hby : byteAt x (8 - (j + 1)) = d := by
      unfold byteAt
      rw [show 56 - 8 * (8 - (j + 1)) = s by omega]; exact hd
    have hsuc : L ++ encTo x (8 - j) = (L ++ encTo x (8 - (j + 1))) ++ [d] := by
      rw [show 8 - j = 8 - (j + 1) + 1 by omega, encTo_succ, hby, List.append_assoc]
    have hlen : (L ++ encTo x (8 - (j + 1))).length ≤ 10000000000008 := by rw [List.length_append, encTo_length]; omega
    obtain ⟨v2, w2, hrun, hs2, ht2, hw2, hn2⟩ := run_append (P := Try.prog) (wr.alloc (.cells #[.int .u8 d] 5)).drew 53 53 53 5 1 1 (.int .u8 0) Try.underlying53 (.inr ⟨_, Try.underlying53⟩) elemU8
      (.slice va vn vc) _ (SliceAt.drew (SliceAt.alloc hs _)) (.slice (some ⟨wr.heap.size, 0, none⟩) 1 1) 1 [.int .u8 d]
      (Src.one rfl (heap_alloc_new wr _)) (by intro u hu; simp at hu; subst hu; rfl)
      (by rw [bcells_length]; simp only [List.length_cons, List.length_nil]; omega) (by rw [bcells_length]; simp only [List.length_cons, List.length_nil]; omega)
    have hbx : ob < wr.heap.size := cell_lt hc
    have hvb : ∀ k, (Value.slice va vn vc).ownBlock = some k → k ≠ ob := fun k hk => (hov k hk).2.1
    have hc2 : w2.cell? ⟨ob, 0, none⟩ = some (.slice va vn vc) := by
      rw [ht2.cell (p := ⟨ob, 0, none⟩) (fun e => hvb _ e rfl) (by simp; omega)]
      show (World.alloc _ _).cell? _ = _
      exact cell_alloc_l _ hc
    have hf2 : w2.frozen? ⟨ob, 0, none⟩ = false := by
      rw [ht2.frozen (p := ⟨ob, 0, none⟩) (fun e => hvb _ e rfl) (by simp; omega)]
      show (World.alloc _ _).frozen? _ = _
      exact frozen_alloc_l _ hc hf
    obtain ⟨pa, pn, pc, rfl, -⟩ := hs2.form
    have hwn : wr.heap.size ≠ ob := by omega
    have K1 : KeepsOthers wr (w2.setCell ⟨ob, 0, none⟩ (.slice pa pn pc)) :=
      (((KeepsOthers.alloc wr (.cells #[.int .u8 d] 5)).trans (KeepsOthers.drew _)).trans (KeepsOthers.of_turn ht2 fun k o hk hho => SliceAt.isCells (SliceAt.drew (SliceAt.alloc hs _)) k o hk hho)).trans (KeepsOthers.setCell _ _ _)
    have hB0 : B ≤ wr.heap.size := by omega
    have B1 : Below B wr (w2.setCell ⟨ob, 0, none⟩ (.slice pa pn pc)) := by
      have q1 : Below B wr (wr.alloc (.cells #[.int .u8 d] 5)).drew := ((Below.refl _ wr).alloc hB0 _).drew
      have q2 : Below B (wr.alloc (.cells #[.int .u8 d] 5)).drew w2 := ⟨ht2.os, ht2.tape, ht2.output, ht2.size, fun k hk => ht2.block k (by simp; omega) (fun e => by have := (hov k e).1; omega)⟩
      exact (q1.trans q2).setCell (p := ⟨ob, 0, none⟩) hB _
    have O1 : OUT B ob pf fo (L ++ encTo x (8 - j)) (w2.setCell ⟨ob, 0, none⟩ (.slice pa pn pc)) := by
      have hpl := heap_lt hpf
      have ow : ∀ k, (Value.slice pa pn pc).ownBlock = some k → B ≤ k ∧ k ≠ ob ∧ k ≠ pf := fun k hk => by
        rcases hw2 with q | q
        · rw [q] at hk; exact hov k hk
        · rw [q] at hk; cases hk; simp; omega
      refine ⟨.slice pa pn pc, World.cell?_setCell_same' _ _ _ (by rw [hc2]; rfl), by rw [World.frozen?_setCell]; exact hf2, ?_, ow, hpo, ?_⟩
      rotate_left
      · rw [heap_setCell_ne _ (by exact hpo), ht2.block pf (by simp; omega) (fun e => (hov pf e).2.2 rfl)]
        show (World.alloc _ _).heap[pf]? = _
        rw [heap_alloc_lt _ _ _ hpl]; exact hpf
      rw [hsuc, bcells_append]
      exact hs2.keep fun k hk => heap_setCell_ne _ (by exact (ow k hk).2.1)
    have HE := Lib.hid (And.intro O1 (And.intro (HO.out.2.1.trans B1) (HO.out.2.2.trans K1)))
    have HD := Lib.hid hd
    have hd2 : d = x / 2 ^ s % 256 := hd.symm
    clear O1 B1 K1 hs2 ht2 hw2 hn2 hs hov hvl hsuc hlen hby hd e1 hvb hpo hpf
    have HD2 := Lib.hid hd2
    clear hd2
    go_wp2
    refine wp_region_planG (aF := ?aFa) [5, 6, 7] [[], [5], [5, 6], [5, 6, 7]] 3 [(0, 0, 0), (0, 1, 1), (1, 0, 0), (2, 0, 0), (3, 0, 0), (4, 0, 0), (5, 0, 1), (6, 1, 2), (7, 2, 3)]
      [wr.drew, (wr.alloc (.cells #[.int .u8 d] 5)).drew, w2, w2.setCell ⟨ob, 0, none⟩ (.slice pa pn pc)]
      [.slice va vn vc, .int .i64 x, .int .i64 (s : Nat), .int .i64 (x / 2 ^ s), .int .u8 d, .slice (some ⟨wr.heap.size, 0, none⟩) 1 1, .slice pa pn pc, undef]
      (by kernel_rfl) (by kernel_rfl) ?hFa rfl rfl rfl ?hoba ?henda
    case hFa => simp only [putAll, Act.put]; go_simp; rfl
    case hoba =>
      repeat' (first
        | exact oblsG_nil
        | (refine oblsG_cons rfl rfl rfl ?_ ?_)
        | (apply Runs.value rfl; (focus (go_simp; try exact rfl)); (rw [IntKind.wrap_u8', HD.out]; rfl))
        | exact Runs.append rfl _ _ _ _ rfl _ _ _ rfl rfl hrun rfl
        | (apply Runs.skip rfl rfl; (focus (go_simp; try exact rfl)); exact rfl)
        | (apply Runs.value rfl; (focus (go_simp; try exact rfl)); exact rfl))
    case henda =>
      go_wp2_with fail
      go_roundg j
      case measure => omega
      case rel => exact ⟨by omega, by congr 1; omega, HE.out⟩
end Go.Sto

/-
  Image, walked whole.
-/
namespace Go.Sto
open Go.Own Go.RowKit Go.Proofs Go.Shelf
attribute [local go_sem] Oper.semAt_some

/-- A block's bytes. -/
def bim (b : Blk) : List Int := enc8 b.size ++ (if b.used then enc8 1 ++ b.ws.flatMap enc8 else enc8 0)
def image (n : Nat) (S : St) : List Int := enc8 n ++ S.flatMap bim

theorem flat8_length (l : List Int) : (l.flatMap enc8).length = 8 * l.length := by
  induction l with
  | nil => rfl
  | cons a l ih => rw [List.flatMap_cons, List.length_append, ih, enc8_length, List.length_cons]; omega

theorem bim_length {b : Blk} (h : Good b) (h2 : b.size ≤ 32000) : (bim b).length ≤ 300000 := by
  unfold bim
  rw [List.length_append, enc8_length]
  cases hu : b.used with
  | false => rw [if_neg (by simp), enc8_length]; omega
  | true =>
    rw [if_pos rfl, List.length_append, enc8_length, flat8_length]
    have := h.full hu
    omega

theorem size_le' {S : St} {b : Blk} (hb : b ∈ S) : b.size ≤ sz S := by
  induction S with
  | nil => cases hb
  | cons a A ih =>
    simp only [sz]
    rcases List.mem_cons.1 hb with rfl | hb
    · omega
    · have := ih hb; omega

theorem flat_bim_length {L : St} (h : ∀ b ∈ L, Good b ∧ b.size ≤ 32000) : (L.flatMap bim).length ≤ L.length * 300000 := by
  induction L with
  | nil => simp
  | cons a L ih =>
    have h1 := h a (by simp)
    have h2 := bim_length h1.1 h1.2
    have h3 := ih fun b hb => h b (by simp [hb])
    rw [List.flatMap_cons, List.length_append, List.length_cons, Nat.add_mul, Nat.one_mul]
    omega

/-- The func value behind the variable 'put'. -/
def putF (ob : Nat) : Obj := .cells #[.func (.func 52) #[] #[.pointer (some ⟨ob, 0, none⟩)]] 93 (0, 0)

/-- The stages of a call of put in a drawn region. -/
def StP (wR : World) (R : World → Prop) (s : Nat) (_ξ : Nat → Value) (w : World) : Prop :=
  match s with
  | 0 => w = wR.drew
  | _ => R w

def ImgI (g : Ghost) (w : World) (n0 : Nat) (n : Nat) (pre : List (In g.L)) (W : World) : Prop :=
  OUT n0 n0 (n0 + 1) (putF n0) (enc8 n ++ (bs (vals pre)).flatMap bim) W ∧ Below n0 w W

theorem OUT.drew {B ob pf : Nat} {fo : Obj} {L : List Int} {w : World} (h : OUT B ob pf fo L w) : OUT B ob pf fo L w.drew := by
  obtain ⟨v, h1, h2, h3, h4, h5, h6⟩ := h
  exact ⟨v, h1, h2, SliceAt.drew h3, h4, h5, h6⟩

set_option maxRecDepth 100000 in
set_option maxHeartbeats 4000000 in
theorem image_calls {g : Ghost} {S : St} {w : World} (h : Repo g S w) {s : Nat} (hs : g.s = s) :
    Calls Try.prog 27 #[.pointer (some ⟨s, 0, none⟩)] w fun e w' => ∃ v, e = .returned v ∧ SliceAt w' 5 1 v (bcells (image g.n S)) ∧ Below w.heap.size w w' ∧ (∀ k, v.ownBlock = some k → w.heap.size ≤ k) := by
  subst hs
  have hL := h.rep.isL
  have hro : Fence.wide.round = none := rfl
  refine (callsIn_wide (n := 3)).1 ?_
  refine callsIn_of_wp_marks Try.func27 rfl trivial ?_ rfl
  simp only [Try.ntmps27, List.size_toArray, List.length_cons, List.length_nil, Nat.reduceAdd, Nat.reduceSub, Array.replicate_succ, Array.replicate_zero, List.push_toArray, List.append_toArray, List.nil_append, List.cons_append]
  gi_wp2
  obtain ⟨wA, hwA⟩ : ∃ wA, (w.alloc (.cells #[.slice none 0 0] 53)).alloc (.cells #[.func (.func 52) #[] #[.pointer (some ⟨w.heap.size, 0, none⟩)]] 93) = wA := ⟨_, rfl⟩
  have hA0 : wA.heap[w.heap.size]? = some (.cells #[.slice none 0 0] 53 (0, 0)) := by
    rw [← hwA, heap_alloc_lt _ _ _ (by simp)]; exact heap_alloc_new w _
  have hA1 : wA.heap[w.heap.size + 1]? = some (putF w.heap.size) := by
    rw [← hwA]
    have := World.alloc_heap_new (w.alloc (.cells #[.slice none 0 0] 53)) (putF w.heap.size)
    rw [World.size_alloc] at this
    exact this
  have hBA : Below w.heap.size w wA := by rw [← hwA]; exact ((Below.refl _ w).alloc (Nat.le_refl _) _).alloc (by simp) _
  rw [hwA]
  clear hwA
  obtain ⟨n0, hn0⟩ : ∃ n0, w.heap.size = n0 := ⟨_, rfl⟩
  rw [hn0] at hA0 hA1 hBA hL ⊢
  have HN := Lib.hid hn0
  clear hn0
  have hout : OUT n0 n0 (n0 + 1) (putF n0) [] wA := ⟨_, cell_at hA0 rfl, frozen_at hA0, SliceAt.nil _ _ _, fun k hk => by simp [Value.ownBlock] at hk, by omega, hA1⟩
  have ca := cell_at hA1 (i := 0) rfl
  have cs : wA.cell? ⟨g.s, 0, none⟩ = some (.int .i64 g.n) := (hBA.cell (p := ⟨g.s, 0, none⟩) (by have := heap_lt h.rep.st; have := HN.out; show g.s < n0; omega)).trans h.rep.st_cells.1
  have hn32 : g.n ≤ 32000 := h.ok.hi
  have HA := Lib.hid (And.intro hout hBA)
  clear hA0 hA1 hout hBA
  refine wpIn_wide.2 ?_
  refine wp_region_planH (aX := ?aX5) [5] [[], [5]] 1 [(0, 0, 0), (1, 0, 0), (1, 1, 1), (2, 0, 0), (3, 0, 0), (4, 0, 0), (5, 0, 1)]
    [.func (.func 52) #[] #[.pointer (some ⟨n0, 0, none⟩)], .pointer (some ⟨g.s, 0, none⟩), .pointer (some ⟨g.s, 0, none⟩), .pointer (some ⟨g.s, 0, none⟩), .int .i64 g.n, undef]
    (StP wA (fun w' => OUT n0 n0 (n0 + 1) (putF n0) (enc8 g.n) w' ∧ Below n0 w w')) (by kernel_rfl) (by kernel_rfl) rfl ?hX5 (fun _ => undef) ?h05 ?hob5 ?hend5
  case hX5 => intro ξ; simp only [mixAll, Act.put]; go_simp; rfl
  case h05 => exact rfl
  case hob5 =>
    repeat' (first
      | exact oblsH_nil
      | (refine oblsH_cons rfl ?_ ?_)
      | exact stepH_value rfl rfl (fun _ _ _ => rfl))
    all_goals first
      | (refine stepH_value rfl rfl ?_
         rintro ξ w h
         have h' : w = wA.drew := h
         subst h'
         clear h
         show _ = _
         go_simp
         rfl)
      | (refine stepH_call rfl rfl ?_
         rintro ξ w' h'
         have h'' : w' = wA.drew := h'
         subst h''
         refine ⟨52, #[.int .i64 g.n, .pointer (some ⟨n0, 0, none⟩)], by go_simp, ?_⟩
         refine (put8_calls (L := []) HA.out.1.drew (Nat.le_refl _) (by simp) g.n (by omega)).mono ?_
         rintro e w5 ⟨rfl, o5, b5, k5⟩
         exact ⟨_, rfl, by simpa using o5, (HA.out.2.drew).trans b5⟩)
  case hend5 =>
    rintro ξ w5 hO
    have HO := Lib.hid (show OUT n0 n0 (n0 + 1) (putF n0) (enc8 g.n) w5 ∧ Below n0 w w5 from hO)
    clear hO ca cs
    gi_wp2_with (first
      | (refine ⟨trivial, ?_⟩; gi_at_call 46; refine (all_in _ _ trivial rfl _ _).mono ?_; rintro e w' ⟨rfl, rfl⟩))
    obtain ⟨x5, hx5⟩ : ∃ u, ξ 5 = u := ⟨_, rfl⟩
    rw [hx5]
    clear hx5
    obtain ⟨Bn, hBn⟩ : ∃ Bn, w5.heap.size = Bn := ⟨_, rfl⟩
    have c1 := cell_new_l w5 (.pointer (some ⟨g.s, 0, none⟩)) 33
    obtain ⟨wX, hwX⟩ : ∃ wX, w5.alloc (.cells #[.pointer (some ⟨g.s, 0, none⟩)] 33) = wX := ⟨_, rfl⟩
    have hz5 : n0 ≤ w5.heap.size := by have := HO.out.2.size; have := HN.out; omega
    have hBX : Below n0 w wX := by rw [← hwX]; exact HO.out.2.trans ((Below.refl _ w5).alloc hz5 _)
    have hOX : OUT n0 n0 (n0 + 1) (putF n0) (enc8 g.n) wX := by
      obtain ⟨v, h1, h2, h3, h4, h5, h6⟩ := HO.out.1
      rw [← hwX]
      exact ⟨v, cell_alloc_l _ h1, frozen_alloc_l _ h1 h2, SliceAt.alloc h3 _, h4, h5, (heap_alloc_lt _ _ _ (heap_lt h6)).trans h6⟩
    have d1 := c1.1
    have hzX : wX.heap.size = Bn + 1 := by rw [← hwX, ← hBn]; simp
    rw [hwX] at d1 ⊢
    rw [hBn] at d1 hz5 ⊢
    clear c1 hwX hBn
    refine wpIn_rangeFunc_ownF hro (by omega) (gf := 71) (lb := #[.pointer (some ⟨Bn, 0, none⟩)]) rfl trivial (enters_of Try.func71 (by kernel_rfl) rfl)
      (all_stops Fence.wide (3 - 1) trivial hro (by omega) Bn n0 g.s g.L _ (by omega) (by omega) d1 (hL.below hBX)) belowK_t (belowK_b (by omega)) (Below.refl _ _) (fun _ => rfl)
      (ImgI g w n0 g.n) (fun _ _ _ => False)
      (fun pre W W' row hs hg hr => by
        obtain ⟨⟨v, h1, h2, h3, h4, h5, h6⟩, hB⟩ := hs
        have hr' : ∀ r, row = some r → ∃ o : Obj, W.heap[r]? = some o ∧ o.isCells = false := fun r e => (hr r e).2
        have hck : ∀ (k : Nat) (o : Obj), W.heap[k]? = some o → o.isCells = true → W'.heap[k]? = some o := fun k o hk ho => by
          by_cases hrow : row = some k
          · obtain ⟨o', q1, q2⟩ := hr' k hrow
            rw [hk] at q1; cases q1; rw [ho] at q2; cases q2
          · exact (hg.block k (heap_lt hk) (fun e => hrow e.symm)).trans hk
        exact ⟨⟨v, cell_kept h1 hg hr', (frozen_kept h1 hg hr').trans h2, SliceAt.cells_kept h3 hck, h4, h5, hck _ _ h6 rfl⟩, hB.grown hg (by have := hB.size; have := HN.out; omega) (fun k e => by have := (hr k e).1; omega)⟩)
      (fun _ _ _ _ _ hs _ _ => hs)
      ⟨by simpa [vals] using hOX, hBX⟩
      (fun x => { tmps := #[.pointer (some ⟨g.s, 0, none⟩), undef, .slice none 0 0, .pointer (some ⟨n0, 0, none⟩), .pointer (some ⟨n0 + 1, 0, none⟩), .pointer (some ⟨x.1.p, 0, none⟩), undef, undef, .pointer (some ⟨g.s, 0, none⟩), .bool false, .func (.func 52) #[] #[.pointer (some ⟨n0, 0, none⟩)], .func (.func 52) #[] #[.pointer (some ⟨n0, 0, none⟩)],
        .pointer (some ⟨g.s, 0, none⟩), .pointer (some ⟨g.s, 0, none⟩), .pointer (some ⟨g.s, 0, none⟩), .int .i64 g.n, x5, .pointer (some ⟨g.s, 0, none⟩), .func (.func 71) #[] #[.pointer (some ⟨Bn, 0, none⟩)], .pointer (some ⟨x.1.p, 0, none⟩), undef, undef, undef, undef, undef, undef, undef, undef, undef, undef, undef, undef, undef, undef, undef, undef, undef, undef, undef, undef, undef, undef, undef, undef, undef, undef, undef, undef, undef], defers := [] }) ?assign ?body ?done ?stop
    case assign =>
      intro l x W K hK
      gi_wp2
      exact hK
    case body =>
      rintro l pre x W ⟨hO, hB⟩ hlen
      obtain ⟨A, B, hAB⟩ := x.split
      have hnw : w.heap.size ≤ n0 := by rw [HN.out]; exact Nat.le_refl _
      have hr := h.rep.below hB hnw
      obtain ⟨b0, b1, b2, b3, -⟩ := nd_cells (hr.mid hAB)
      have hxb : x.1.b ∈ S := by rw [h.rep.map]; exact List.mem_map_of_mem x.2
      have hgd := h.ok.good _ hxb
      have hsz : x.1.b.size ≤ 32000 := Nat.le_trans (size_le' hxb) h.ok.le
      have hplt : x.1.p < n0 := by rw [← HN.out]; exact h.rep.plt x.2
      have hbig : (enc8 (g.n : Int) ++ (bs (vals pre)).flatMap bim).length ≤ 5000000000 := by
        have q1 : ∀ b ∈ bs (vals pre), Good b ∧ b.size ≤ 32000 := fun b hb => by
          obtain ⟨y, hy, rfl⟩ := List.mem_map.1 hb
          obtain ⟨z, -, rfl⟩ := List.mem_map.1 hy
          have hz : z.1.b ∈ S := by rw [h.rep.map]; exact List.mem_map_of_mem z.2
          exact ⟨h.ok.good _ hz, Nat.le_trans (size_le' hz) h.ok.le⟩
        have q2 := flat_bim_length q1
        have q3 : (bs (vals pre)).length = pre.length := by rw [bs_length]; exact List.length_map _
        have q4 : 2 * S.length ≤ sz S := two_le h.ok.good
        have q5 := h.ok.le
        rw [h.rep.map, bs_length] at q4
        rw [h.rep.map] at q5
        have q6 : pre.length * 300000 ≤ 16000 * 300000 := Nat.mul_le_mul_right _ (by omega)
        rw [q3] at q2
        rw [List.length_append, enc8_length]
        omega
      have hpf := hO.choose_spec.2.2.2.2.2
      have cf : W.cell? ⟨n0 + 1, 0, none⟩ = some (.func (.func 52) #[] #[.pointer (some ⟨n0, 0, none⟩)]) := cell_at hpf rfl
      have HW := Lib.hid (And.intro hO (And.intro hB (And.intro hAB (And.intro hgd (And.intro hbig hr)))))
      clear hO hB hAB hgd hbig hr hpf b0 hxb
      gi_wp2
      refine wpIn_region_planH (aX := ?aX8) [5] [[], [5]] 1 [(0, 0, 0), (1, 0, 0), (1, 1, 1), (2, 0, 0), (3, 0, 0), (4, 0, 0), (5, 0, 1)]
        [.func (.func 52) #[] #[.pointer (some ⟨n0, 0, none⟩)], .pointer (some ⟨x.1.p, 0, none⟩), .pointer (some ⟨x.1.p, 0, none⟩), .pointer (some ⟨x.1.p, 1, none⟩), .int .i64 x.1.b.size, undef]
        (StP W (fun w' => OUT n0 n0 (n0 + 1) (putF n0) ((enc8 g.n ++ (bs (vals pre)).flatMap bim) ++ enc8 x.1.b.size) w' ∧ Below n0 W w' ∧ KeepsOthers W w')) (by kernel_rfl) (by kernel_rfl) (by kernel_rfl) rfl ?hX8 (fun _ => undef) ?h08 ?hob8 ?hend8
      case hX8 => intro ξ; simp only [mixAll, Act.put]; go_simp; rfl
      case h08 => exact rfl
      case hob8 =>
        repeat' (first
          | exact oblsH_nil
          | (refine oblsH_cons rfl ?_ ?_)
          | exact stepH_value rfl rfl (fun _ _ _ => rfl))
        all_goals first
          | (refine stepH_value rfl rfl ?_
             rintro ξ w h
             have h' : w = W.drew := h
             subst h'
             clear h
             show _ = _
             go_simp
             rfl)
          | (refine stepH_call rfl rfl ?_
             rintro ξ w' h'
             have h'' : w' = W.drew := h'
             subst h''
             refine ⟨52, #[.int .i64 x.1.b.size, .pointer (some ⟨n0, 0, none⟩)], by go_simp, ?_⟩
             refine (put8_calls HW.out.1.drew (Nat.le_refl _) (by have := HW.out.2.2.2.2.1; omega) x.1.b.size (by omega)).mono ?_
             rintro e w5 ⟨rfl, o5, b5, k5⟩
             exact ⟨_, rfl, o5, ((Below.refl _ W).drew).trans b5, (KeepsOthers.drew _).trans k5⟩)
      case hend8 =>
        rintro ξ w6 hO6
        have HO6 := Lib.hid (show OUT n0 n0 (n0 + 1) (putF n0) ((enc8 g.n ++ (bs (vals pre)).flatMap bim) ++ enc8 x.1.b.size) w6 ∧ Below n0 W w6 ∧ KeepsOthers W w6 from hO6)
        have k2 : w6.cell? ⟨x.1.p, 2, none⟩ = some (.bool x.1.b.used) := (HO6.out.2.1.cell (p := ⟨x.1.p, 2, none⟩) hplt).trans b2
        have k3 : w6.cell? ⟨x.1.p, 3, none⟩ = some x.1.v := (HO6.out.2.1.cell (p := ⟨x.1.p, 3, none⟩) hplt).trans b3
        have cf6 : w6.cell? ⟨n0 + 1, 0, none⟩ = some (.func (.func 52) #[] #[.pointer (some ⟨n0, 0, none⟩)]) := cell_at HO6.out.1.choose_spec.2.2.2.2.2 rfl
        clear hO6 b1 b2 b3 cf
        rcases hu : x.1.b.used with _ | _
        · rw [hu] at k2
          have HU := Lib.hid hu
          clear hu k3
          gi_wp2_with (refine ⟨trivial, ?_⟩; gi_at_call 52; refine (CallsIn.inRound l (callsIn_wide.2 (put8_calls HO6.out.1 (Nat.le_refl _) (by have := HW.out.2.2.2.2.1; rw [List.length_append, enc8_length]; omega) 0 (by omega)))).mono ?_; rintro e w7 ⟨rfl, o7, b7, k7⟩; have H7 := Lib.hid (And.intro o7 (And.intro b7 k7)); clear o7 b7 k7 k2 cf6)
          refine ⟨HO6.out.2.2.trans H7.out.2.2, HO6.out.2.1.trans H7.out.2.1, ?_⟩
          show ImgI g w n0 g.n (pre ++ [x]) w7
          refine ⟨?_, (HW.out.2.1.trans HO6.out.2.1).trans H7.out.2.1⟩
          have e1 : enc8 (g.n : Int) ++ (bs (vals (pre ++ [x]))).flatMap bim = (enc8 g.n ++ (bs (vals pre)).flatMap bim) ++ enc8 x.1.b.size ++ enc8 0 := by
            rw [vals_snoc, bs_append, List.flatMap_append]
            simp [bim, HU.out]
          rw [e1]
          exact H7.out.1
        · obtain ⟨bx, ox, cx, hvx, hnx, hcx, hsx, -, -, -⟩ := h.nd HW.out.2.2.1 hu
          have hbx : bx < n0 := by rw [← HN.out]; exact hsx.lt bx rfl
          have hwsl : x.1.b.ws.length ≤ 32000 := by have := HW.out.2.2.2.1.full hu; omega
          rw [hu] at k2
          rw [hvx] at k3
          have HU := Lib.hid (And.intro hu hsx)
          clear hu hsx hvx
          have hlenA : ((enc8 (g.n : Int) ++ (bs (vals pre)).flatMap bim) ++ enc8 x.1.b.size).length ≤ 5000000008 := by rw [List.length_append, enc8_length]; have := HW.out.2.2.2.2.1; omega
          gi_wp2_with (refine ⟨trivial, ?_⟩; gi_at_call 52; refine (CallsIn.inRound l (callsIn_wide.2 (put8_calls HO6.out.1 (Nat.le_refl _) (by omega) 1 (by omega)))).mono ?_; rintro e w7 ⟨rfl, o7, b7, k7⟩; have H7 := Lib.hid (And.intro o7 (And.intro b7 k7)); have k3' : w7.cell? ⟨x.1.p, 3, none⟩ = some (.slice (some ⟨bx, ox, none⟩) x.1.b.ws.length cx) := (b7.cell (p := ⟨x.1.p, 3, none⟩) hplt).trans k3; clear o7 b7 k7 k2 cf6 k3)
          gi_loopw [40] (fun i wr => ∃ j : Nat, j ≤ x.1.b.ws.length ∧ i = .int .i64 j ∧ OUT n0 n0 (n0 + 1) (putF n0) (((enc8 g.n ++ (bs (vals pre)).flatMap bim) ++ enc8 x.1.b.size) ++ enc8 1 ++ (x.1.b.ws.take j).flatMap enc8) wr ∧ Below n0 W wr ∧ KeepsOthers W wr) (fun i _ => x.1.b.ws.length - (intOf i).toNat)
          case atStart => exact ⟨0, Nat.zero_le _, rfl, by simpa using H7.out.1, HO6.out.2.1.trans H7.out.2.1, HO6.out.2.2.trans H7.out.2.2⟩
          case round =>
            obtain ⟨j, hj, rfl, hOj, hBj, hKj⟩ := hrel
            have HJ := Lib.hid (And.intro hOj (And.intro hBj hKj))
            have cfj : wr.cell? ⟨n0 + 1, 0, none⟩ = some (.func (.func 52) #[] #[.pointer (some ⟨n0, 0, none⟩)]) := cell_at hOj.choose_spec.2.2.2.2.2 rfl
            clear hOj hBj hKj
            by_cases hjl : j < x.1.b.ws.length
            · obtain ⟨z, hz⟩ : ∃ z, x.1.b.ws[j]? = some z := ⟨_, List.getElem?_eq_getElem hjl⟩
              have hcj : wr.cell? ⟨bx, ox + j, none⟩ = some (.int .i64 z) := (HW.out.2.1.trans HJ.out.2.1).cell (p := ⟨bx, ox + j, none⟩) hbx |>.trans (HU.out.2.cells j _ (by simp [icells, hz]))
              have hzwf := HW.out.2.2.2.1.wf z (List.mem_of_getElem? hz)
              have hzb : -9223372036854775808 ≤ z ∧ z ≤ 9223372036854775807 := by
                unfold Lit.wf at hzwf
                rw [Bool.and_eq_true, decide_eq_true_eq, decide_eq_true_eq] at hzwf
                exact hzwf
              have hlj : (((enc8 (g.n : Int) ++ (bs (vals pre)).flatMap bim) ++ enc8 x.1.b.size) ++ enc8 1 ++ (x.1.b.ws.take j).flatMap enc8).length ≤ 6000000000 := by
                rw [List.length_append, List.length_append, enc8_length, flat8_length, List.length_take]
                omega
              have HZ := Lib.hid hz
              clear hz hzwf
              gi_wp2_with (refine ⟨trivial, ?_⟩; gi_at_call 52; refine (CallsIn.inRound l (callsIn_wide.2 (put8_calls HJ.out.1 (Nat.le_refl _) (by omega) z hzb))).mono ?_; rintro e w8 ⟨rfl, o8, b8, k8⟩; have H8 := Lib.hid (And.intro o8 (And.intro b8 k8)); clear o8 b8 k8)
              refine ⟨⟨j + 1, by omega, by go_num, ?_, HJ.out.2.1.trans H8.out.2.1, HJ.out.2.2.trans H8.out.2.2⟩, by simp [intOf]; omega⟩
              have e1 : (x.1.b.ws.take (j + 1)).flatMap enc8 = (x.1.b.ws.take j).flatMap enc8 ++ enc8 z := by
                rw [List.take_add_one, HZ.out, List.flatMap_append]; simp
              rw [e1, ← List.append_assoc]
              exact H8.out.1
            · obtain rfl : j = x.1.b.ws.length := by omega
              gi_wp2
              refine ⟨HJ.out.2.2, HJ.out.2.1, ?_⟩
              show ImgI g w n0 g.n (pre ++ [x]) wr
              refine ⟨?_, HW.out.2.1.trans HJ.out.2.1⟩
              have e1 : enc8 (g.n : Int) ++ (bs (vals (pre ++ [x]))).flatMap bim = ((enc8 g.n ++ (bs (vals pre)).flatMap bim) ++ enc8 x.1.b.size) ++ enc8 1 ++ x.1.b.ws.flatMap enc8 := by
                rw [vals_snoc, bs_append, List.flatMap_append]
                simp [bim, HU.out.1]
              rw [e1]
              have := HJ.out.1
              rw [List.take_length] at this
              exact this
    case done =>
      rintro D ys W hD hys ⟨⟨v, h1, h2, h3, h4, h5, h6⟩, hB⟩ hK
      have HY := Lib.hid hys
      clear hys
      gi_wp2
      refine ⟨by simp, .inl ⟨_, _, rfl, run_takeDeferred hK, ?_⟩⟩
      have kg := grownBy_putObj' W D (.deferred none)
      refine ⟨_, results_tmp rfl _ _ _, v, rfl, SliceAt.cells_kept (w := W) ?_ (fun k o hk ho => ?_), ?_, fun k hk => by rw [HN.out]; exact (h4 k hk).1⟩
      · rw [HY.out, ← h.rep.map] at h3; exact h3
      · by_cases hkD : k = D
        · subst hkD; rw [hK] at hk; cases hk; cases ho
        · exact (kg.block k (heap_lt hk) (fun e => hkD (by cases e; rfl))).trans hk
      · rw [HN.out]; exact hB.trans (belowK_b (w := wX) (by omega) W D _ _ hD hK rfl rfl)
    case stop =>
      rintro D c pre W _ _ h _
      exact h.elim
end Go.Sto
