/-
  Handles, Pipes where there are none: slices.Sorted(maps.Keys(m)) of an empty map.
-/
import Derived.Shelf.SlIter.Nil
import Derived.Shelf.SlIterI.Nil
import Derived.Shelf.SortM.Plain
import Derived.Shelf.SortM.SortNone
import Derived.Ground.GgzProg
import Derived.Ground.SlgmProg
import Derived.Test.YtipjapijadgihaaGreatDoorQStrPour2
set_option linter.unusedVariables false

namespace Go.Str
open Go.Own Go.RowKit Go.Proofs Go.Maps Go.Sort Go.Shelf

shelf_lay_g SlLaysZ.n7 Ggz 7 at Tryz 50 as Str.keysS
shelf_lay_g SlLaysZ.n6 Ggz 6 at Tryz 49 as Str.sortedS
shelf_lay_g SlLaysM.n6 Slgm 6 at Tryz 89 as Str.sortS
shelf_lay_g SlLaysZI.n7 Ggz 7 at Tryz 48 as Str.keysI
shelf_lay_g SlLaysZI.n6 Ggz 6 at Tryz 47 as Str.sortedI
shelf_lay_g SlLaysM.n5 Slgm 5 at Tryz 86 as Str.sortI

theorem sortsS (m : Nat) : AnyZ.SortsIn Tryz.prog Str.sortedS_ren Fence.wide m :=
  ⟨fun blk off cap ss W hH hblk hsz => callsIn_wide.2 (AnyM.slices_Sort_string Str.sortS blk off cap ss W hH hblk hsz),
   fun p cap W => callsIn_wide.2 (AnyM.slices_Sort_string_none Str.sortS p cap W)⟩
theorem sortsI (m : Nat) : AnyZI.SortsIn Tryz.prog Str.sortedI_ren Fence.wide m :=
  ⟨fun blk off cap ss W hH hblk hsz => callsIn_wide.2 (AnyM.slices_Sort_int Str.sortI blk off cap ss W hH hblk hsz),
   fun p cap W => callsIn_wide.2 (AnyM.slices_Sort_int_none Str.sortI p cap W)⟩

theorem empty_ownsT {H : Type} {w : World} {b : Nat} {f : ByteArray → Option Value} (h : MapST w b f) (hf : ∀ k, f k = none) (P : Program) (k : TypeId) (R : Value → Option (DataW H × List MemPlace)) : w.ownsMap P k R b 0 (.map []) := by
  obtain ⟨es, clock, hb, hR, hS⟩ := h
  have he : es = #[] := by
    apply Array.toList_eq_nil_iff.1
    refine List.eq_nil_iff_forall_not_mem.2 fun e he => ?_
    obtain ⟨k, hk, -⟩ := hR.keys e he
    have := (hR.get k e.val).2 ⟨e, he, hk, rfl⟩
    rw [hf k] at this
    cases this
  subst he
  exact ⟨#[], clock, hb, ⟨by simp, hS, by simp⟩, Nat.le_refl _, rfl⟩
theorem empty_owns {H : Type} {w : World} {b : Nat} {f : Int → Option Value} (h : MapS w b f) (hf : ∀ k, f k = none) (P : Program) (k : TypeId) (R : Value → Option (DataW H × List MemPlace)) : w.ownsMap P k R b 0 (.map []) := by
  obtain ⟨es, clock, hb, hR, hS⟩ := h
  have he : es = #[] := by
    apply Array.toList_eq_nil_iff.1
    refine List.eq_nil_iff_forall_not_mem.2 fun e he => ?_
    obtain ⟨k, hk, -⟩ := hR.keys e he
    have := (hR.get k e.val).2 ⟨e, he, hk, rfl⟩
    rw [hf k] at this
    cases this
  subst he
  exact ⟨#[], clock, hb, ⟨by simp, hS, by simp⟩, Nat.le_refl _, rfl⟩

section
variable {g g' : Gh} {S : SS} {w w' : World}

set_option maxHeartbeats 1000000 in
theorem handles_calls (h : Rep g S w) {sb : Nat} (hs : g.s = sb) (hno : S.handles = fun _ => none) :
    Calls Tryz.prog 19 #[pt sb] w fun e w' => e = .returned (.slice none 0 0) ∧ Turn (fun _ => False) w w' := by
  subst hs
  obtain ⟨-, -, -, c3, -, -⟩ := s_cells h.base.sb
  have hown := empty_owns (H := Unit) h.handles.m (fun k => by unfold kh; rw [hno]; rfl) Tryz.prog 3 (fun _ => none)
  have hbl := hown.lt
  refine (callsIn_wide (n := 6)).1 ?_
  have hseq : SeqGives Fence.wide 2 Tryz.prog 87 #[.pointer (some ⟨w.heap.size, 0, none⟩)] encZ (fun ss => ss.Perm (intKeys (H := Unit) (.map []))) (Maps.size (H := Unit) (.map [])) (w.alloc (.cells #[.map (some g.hm)] 78)) :=
    AnyZI.keys_gives (ρ := Str.keysI_ren) { Str.keysI with } Fence.wide _ trivial rfl (by omega) w.heap.size g.hm 0 (.map []) _ (by simp) (by simp) (by
      obtain ⟨es, clock, hb, Ft, hs, hD⟩ := hown
      exact ⟨es, clock, (Below.heap_alloc _ _ _ hbl).trans hb, Ft, hs, hD⟩)
  have cK : ∀ mb W, CallsIn Fence.wide 5 Tryz.prog 48 #[.map mb] W fun e w' => e = .returned (.func (.func 87) #[] #[.pointer (some ⟨W.heap.size, 0, none⟩)]) ∧ w' = W.alloc (.cells #[.map mb] 78) := fun mb W => AnyZI.keys_in Str.keysI Fence.wide 5 trivial rfl mb W
  have cS := AnyZI.sorted_in Str.sortedI Fence.wide 5 trivial trivial trivial trivial rfl (by omega) (sortsI _) (enters_of Tryz.func86 (by kernel_rfl) rfl) 87 #[.pointer (some ⟨w.heap.size, 0, none⟩)] trivial (enters_of Tryz.func87 (by kernel_rfl) rfl) _ _ (Nat.zero_le _) (by simp) _ hseq
  change CallsIn _ _ Tryz.prog 47 _ _ _ at cS
  have hfK : Fence.wide.fn 48 := trivial
  have hfS : Fence.wide.fn 47 := trivial
  clear hown hbl hseq h hno
  refine callsIn_of_wp Tryz.func19 rfl trivial ?_ rfl
  simp only [Tryz.ntmps19, List.size_toArray, List.length_cons, List.length_nil, Nat.reduceAdd, Nat.reduceSub, Array.replicate_succ, Array.replicate_zero, List.push_toArray, List.append_toArray, List.nil_append, List.cons_append]
  gi_wp2_with (first
    | (gi_at_call 48; refine (cK _ _).mono ?_; rintro e w' ⟨rfl, rfl⟩)
    | (gi_at_call 47; refine cS.mono ?_; rintro e w' ⟨v, ss, rfl, hS, hrow, hnil, hb⟩))
  go_ret
  exact ⟨by rw [hnil.2 (List.perm_nil.1 hS)]; rfl, ((Turn.refl (fun _ => False) w).alloc _).trans (turn_of_below hb)⟩

set_option maxHeartbeats 1000000 in
theorem pipes_calls (h : Rep g S w) {sb : Nat} (hs : g.s = sb) (hno : S.pipes = fun _ => none) :
    Calls Tryz.prog 20 #[pt sb] w fun e w' => e = .returned (.slice none 0 0) ∧ Turn (fun _ => False) w w' := by
  subst hs
  obtain ⟨-, c1, -, -, -, -⟩ := s_cells h.base.sb
  have hown := empty_ownsT (H := Unit) h.pipes.m (fun k => by unfold kp; rw [hno]; rfl) Tryz.prog 9 (fun _ => none)
  have hbl := hown.lt
  refine (callsIn_wide (n := 6)).1 ?_
  have hseq : SeqGives Fence.wide 2 Tryz.prog 90 #[.pointer (some ⟨w.heap.size, 0, none⟩)] encStr (fun ss => ss.Perm (strKeys (H := Unit) (.map []))) (Maps.size (H := Unit) (.map [])) (w.alloc (.cells #[.map (some g.pm)] 76)) :=
    AnyZ.keys_gives (ρ := Str.keysS_ren) { Str.keysS with } Fence.wide _ trivial rfl (by omega) w.heap.size g.pm 0 (.map []) _ (by simp) (by simp) (by
      obtain ⟨es, clock, hb, Ft, hs, hD⟩ := hown
      exact ⟨es, clock, (Below.heap_alloc _ _ _ hbl).trans hb, Ft, hs, hD⟩)
  have cK : ∀ mb W, CallsIn Fence.wide 5 Tryz.prog 50 #[.map mb] W fun e w' => e = .returned (.func (.func 90) #[] #[.pointer (some ⟨W.heap.size, 0, none⟩)]) ∧ w' = W.alloc (.cells #[.map mb] 76) := fun mb W => AnyZ.keys_in Str.keysS Fence.wide 5 trivial rfl mb W
  have cS := AnyZ.sorted_in Str.sortedS Fence.wide 5 trivial trivial trivial trivial rfl (by omega) (sortsS _) (enters_of Tryz.func89 (by kernel_rfl) rfl) 90 #[.pointer (some ⟨w.heap.size, 0, none⟩)] trivial (enters_of Tryz.func90 (by kernel_rfl) rfl) _ _ (Nat.zero_le _) (by simp) _ hseq
  change CallsIn _ _ Tryz.prog 49 _ _ _ at cS
  have hfK : Fence.wide.fn 50 := trivial
  have hfS : Fence.wide.fn 49 := trivial
  clear hown hbl hseq h hno
  refine callsIn_of_wp Tryz.func20 rfl trivial ?_ rfl
  simp only [Tryz.ntmps20, List.size_toArray, List.length_cons, List.length_nil, Nat.reduceAdd, Nat.reduceSub, Array.replicate_succ, Array.replicate_zero, List.push_toArray, List.append_toArray, List.nil_append, List.cons_append]
  gi_wp2_with (first
    | (gi_at_call 50; refine (cK _ _).mono ?_; rintro e w' ⟨rfl, rfl⟩)
    | (gi_at_call 49; refine cS.mono ?_; rintro e w' ⟨v, ss, rfl, hS, hrow, hnil, hb⟩))
  go_ret
  exact ⟨by rw [hnil.2 (List.perm_nil.1 hS)]; rfl, ((Turn.refl (fun _ => False) w).alloc _).trans (turn_of_below hb)⟩
end
end Go.Str
