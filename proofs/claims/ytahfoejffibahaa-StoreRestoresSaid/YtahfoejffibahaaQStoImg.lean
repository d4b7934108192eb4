/-
  Image, walked: a store's bytes.
-/
import Derived.Deep.CutRange
import Derived.Deep.LoopGhost
import Derived.Laws.BitsAllLaws
import Derived.Test.YtahfoejffibahaaQStoGrow2
namespace Go.Sto
open Go.Own Go.RowKit Go.Proofs Go.Shelf
attribute [local go_sem] Oper.semAt_some

def bcells (l : List Int) : List Value := l.map (Value.int .u8)
theorem bcells_length (l : List Int) : (bcells l).length = l.length := List.length_map _
theorem bcells_append (a b : List Int) : bcells (a ++ b) = bcells a ++ bcells b := List.map_append

/-- A number in eight bytes, the highest one first: its first i bytes. -/
def byteAt (x : Int) (i : Nat) : Int := (x / (2 : Int) ^ (56 - 8 * i)) % 256
def encTo (x : Int) (i : Nat) : List Int := (List.range i).map (byteAt x)
def enc8 (x : Int) : List Int := encTo x 8
theorem encTo_length (x : Int) (i : Nat) : (encTo x i).length = i := by simp [encTo]
theorem enc8_length (x : Int) : (enc8 x).length = 8 := encTo_length x 8
theorem encTo_succ (x : Int) (i : Nat) : encTo x (i + 1) = encTo x i ++ [byteAt x i] := by simp [encTo, List.range_succ]

/-- The bytes that were written so far lie behind the pointer. -/
def OUT (B ob pf : Nat) (fo : Obj) (L : List Int) (w : World) : Prop :=
  ∃ v, w.cell? ⟨ob, 0, none⟩ = some v ∧ w.frozen? ⟨ob, 0, none⟩ = false ∧ SliceAt w 5 1 v (bcells L) ∧ (∀ k, v.ownBlock = some k → B ≤ k ∧ k ≠ ob ∧ k ≠ pf) ∧ pf ≠ ob ∧ w.heap[pf]? = some fo

theorem elemU8 : Elem Try.prog 5 1 1 (.int .u8 0) := Elem.mk' (by kernel_rfl) rfl (by decide)

set_option maxRecDepth 100000 in
set_option maxHeartbeats 4000000 in
theorem put8_calls {w : World} {B ob pf : Nat} {fo : Obj} {L : List Int} (h : OUT B ob pf fo L w) (hB : B ≤ ob) (hL : L.length ≤ 10000000000000) (x : Int) (_hx : -9223372036854775808 ≤ x ∧ x ≤ 9223372036854775807) :
    Calls Try.prog 52 #[.int .i64 x, .pointer (some ⟨ob, 0, none⟩)] w fun e w' => e = .returned (.tuple #[]) ∧ OUT B ob pf fo (L ++ enc8 x) w' ∧ Below B w w' ∧ KeepsOthers w w' := by
  have H := Lib.hid h
  clear h
  go_enter Try.func52, Try.ntmps52
  go_wp2
  go_loopg [3] (8) (fun k i wx => k ≤ 8 ∧ i = .int .i64 (8 * (k : Int) - 8) ∧ OUT B ob pf fo (L ++ encTo x (8 - k)) wx ∧ Below B w wx ∧ KeepsOthers w wx)
  case atStart => exact ⟨by omega, rfl, by simpa [encTo] using H.out, Below.refl _ _, KeepsOthers.refl _⟩
  case round =>
    obtain ⟨hk, rfl, hO, hBel, hKo⟩ := hrel
    have HO := Lib.hid (And.intro hO (And.intro hBel hKo))
    obtain ⟨v, hc, hf, hs, hov, hpo, hpf⟩ := hO
    obtain ⟨va, vn, vc, rfl, hvl, -⟩ := hs.form
    clear hBel hKo
    rcases Nat.eq_zero_or_pos gk with hk0 | hk0
    · subst hk0
      clear hc hf hs hov hvl hpo hpf
      go_wp2
      go_end0
      exact ⟨rfl, HO.out.1, HO.out.2⟩
    obtain ⟨j, rfl⟩ : ∃ j, gk = j + 1 := ⟨gk - 1, by omega⟩
    obtain ⟨s, hsj⟩ : ∃ s, 8 * j = s := ⟨_, rfl⟩
    have e1 : 8 * ((j + 1 : Nat) : Int) - 8 = (s : Nat) := by omega
    rw [e1]
    have hs56 : s ≤ 56 := by omega
    obtain ⟨d, hd⟩ : ∃ d, x / (2 : Int) ^ s % 256 = d := ⟨_, rfl⟩
    have hby : byteAt x (8 - (j + 1)) = d := by
      unfold byteAt
      rw [show 56 - 8 * (8 - (j + 1)) = s by omega]; exact hd
    have hsuc : L ++ encTo x (8 - j) = (L ++ encTo x (8 - (j + 1))) ++ [d] := by
      rw [show 8 - j = 8 - (j + 1) + 1 by omega, encTo_succ, hby, List.append_assoc]
    have hlen : (L ++ encTo x (8 - (j + 1))).length ≤ 10000000000008 := by rw [List.length_append, encTo_length]; omega
    obtain ⟨v2, w2, hrun, hs2, ht2, hw2, hn2⟩ := run_append (P := Try.prog) (wr.alloc (.cells #[.int .u8 d] 5)).drew 53 53 53 5 1 1 (.int .u8 0) Try.underlying53 (.inr ⟨_, Try.underlying53⟩) elemU8
      (.slice va vn vc) _ (SliceAt.drew (SliceAt.alloc hs _)) (.slice (some ⟨wr.heap.size, 0, none⟩) 1 1) 1 [.int .u8 d]
      (Src.one rfl (heap_alloc_new wr _)) (by intro u hu; simp at hu; subst hu; rfl)
      (by rw [bcells_length]; simp only [List.length_cons, List.length_nil]; omega) (by rw [bcells_length]; simp only [List.length_cons, List.length_nil]; omega)
    have hbx : ob < wr.heap.size := cell_lt hc
    have hvb : ∀ k, (Value.slice va vn vc).ownBlock = some k → k ≠ ob := fun k hk => (hov k hk).2.1
    have hc2 : w2.cell? ⟨ob, 0, none⟩ = some (.slice va vn vc) := by
      rw [ht2.cell (p := ⟨ob, 0, none⟩) (fun e => hvb _ e rfl) (by simp; omega)]
      show (World.alloc _ _).cell? _ = _
      exact cell_alloc_l _ hc
    have hf2 : w2.frozen? ⟨ob, 0, none⟩ = false := by
      rw [ht2.frozen (p := ⟨ob, 0, none⟩) (fun e => hvb _ e rfl) (by simp; omega)]
      show (World.alloc _ _).frozen? _ = _
      exact frozen_alloc_l _ hc hf
    obtain ⟨pa, pn, pc, rfl, -⟩ := hs2.form
    have hwn : wr.heap.size ≠ ob := by omega
    have K1 : KeepsOthers wr (w2.setCell ⟨ob, 0, none⟩ (.slice pa pn pc)) :=
      (((KeepsOthers.alloc wr (.cells #[.int .u8 d] 5)).trans (KeepsOthers.drew _)).trans (KeepsOthers.of_turn ht2 fun k o hk hho => SliceAt.isCells (SliceAt.drew (SliceAt.alloc hs _)) k o hk hho)).trans (KeepsOthers.setCell _ _ _)
    have hB0 : B ≤ wr.heap.size := by omega
    have B1 : Below B wr (w2.setCell ⟨ob, 0, none⟩ (.slice pa pn pc)) := by
      have q1 : Below B wr (wr.alloc (.cells #[.int .u8 d] 5)).drew := ((Below.refl _ wr).alloc hB0 _).drew
      have q2 : Below B (wr.alloc (.cells #[.int .u8 d] 5)).drew w2 := ⟨ht2.os, ht2.tape, ht2.output, ht2.size, fun k hk => ht2.block k (by simp; omega) (fun e => by have := (hov k e).1; omega)⟩
      exact (q1.trans q2).setCell (p := ⟨ob, 0, none⟩) hB _
    have O1 : OUT B ob pf fo (L ++ encTo x (8 - j)) (w2.setCell ⟨ob, 0, none⟩ (.slice pa pn pc)) := by
      have hpl := heap_lt hpf
      have ow : ∀ k, (Value.slice pa pn pc).ownBlock = some k → B ≤ k ∧ k ≠ ob ∧ k ≠ pf := fun k hk => by
        rcases hw2 with q | q
        · rw [q] at hk; exact hov k hk
        · rw [q] at hk; cases hk; simp; omega
      refine ⟨.slice pa pn pc, World.cell?_setCell_same' _ _ _ (by rw [hc2]; rfl), by rw [World.frozen?_setCell]; exact hf2, ?_, ow, hpo, ?_⟩
      rotate_left
      · rw [heap_setCell_ne _ (by exact hpo), ht2.block pf (by simp; omega) (fun e => (hov pf e).2.2 rfl)]
        show (World.alloc _ _).heap[pf]? = _
        rw [heap_alloc_lt _ _ _ hpl]; exact hpf
      rw [hsuc, bcells_append]
      exact hs2.keep fun k hk => heap_setCell_ne _ (by exact (ow k hk).2.1)
    have HE := Lib.hid (And.intro O1 (And.intro (HO.out.2.1.trans B1) (HO.out.2.2.trans K1)))
    have HD := Lib.hid hd
    have hd2 : d = x / 2 ^ s % 256 := hd.symm
    clear O1 B1 K1 hs2 ht2 hw2 hn2 hs hov hvl hsuc hlen hby hd e1 hvb hpo hpf
    have HD2 := Lib.hid hd2
    clear hd2
    go_wp2
    refine wp_region_planG (aF := ?aFa) [5, 6, 7] [[], [5], [5, 6], [5, 6, 7]] 3 [(0, 0, 0), (0, 1, 1), (1, 0, 0), (2, 0, 0), (3, 0, 0), (4, 0, 0), (5, 0, 1), (6, 1, 2), (7, 2, 3)]
      [wr.drew, (wr.alloc (.cells #[.int .u8 d] 5)).drew, w2, w2.setCell ⟨ob, 0, none⟩ (.slice pa pn pc)]
      [.slice va vn vc, .int .i64 x, .int .i64 (s : Nat), .int .i64 (x / 2 ^ s), .int .u8 d, .slice (some ⟨wr.heap.size, 0, none⟩) 1 1, .slice pa pn pc, undef]
      (by kernel_rfl) (by kernel_rfl) ?hFa rfl rfl rfl ?hoba ?henda
    case hFa => simp only [putAll, Act.put]; go_simp; rfl
    case hoba =>
      repeat' (first
        | exact oblsG_nil
        | (refine oblsG_cons rfl rfl rfl ?_ ?_)
        | (apply Runs.value rfl; (focus (go_simp; try exact rfl)); (rw [IntKind.wrap_u8', HD.out]; rfl))
        | exact Runs.append rfl _ _ _ _ rfl _ _ _ rfl rfl hrun rfl
        | (apply Runs.skip rfl rfl; (focus (go_simp; try exact rfl)); exact rfl)
        | (apply Runs.value rfl; (focus (go_simp; try exact rfl)); exact rfl))
    case henda =>
      go_wp2_with fail
      go_roundg j
      case measure => omega
      case rel => exact ⟨by omega, by congr 1; omega, HE.out⟩
end Go.Sto
