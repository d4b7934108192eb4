/-
  ConsoleReads, walked.
-/
import Derived.Test.YtjdafmpkobelcaaConAwake
import Derived.Test.YtjdafmpkobelcaaConPure1
namespace Go.Con
open Go.Own Go.RowKit Go.Proofs

/-- Where the law stands: task t is being asked, the lines before number i have been looked at. -/
def RInv (g : Ghost) (w : World) (L : List Ln) (lv : Value) (t : Int) (i : Nat) (wr : World) : Prop :=
  ∃ g' S, Rep g' S wr ∧ Step g g' w wr ∧ SliceAt wr 28 2 lv (lcells L) ∧ (∀ b, lv.ownBlock = some b → b < w.heap.size ∧ (g.ρ b).1 = 0) ∧
    (∀ k, k < t → S.lines k = []) ∧ S.lines t = textsOf t (L.drop i) ∧ (∀ k, t < k → S.lines k = textsOf k L)

theorem RInv.read_done {g : Ghost} {w : World} {L : List Ln} {lv : Value} {t : Int} {wr : World} (h : RInv g w L lv t L.length wr) : RInv g w L lv (t + 1) 0 wr := by
  obtain ⟨g', S, r, s, o, n, h1, h2, h3⟩ := h
  refine ⟨g', S, r, s, o, n, fun k hk => ?_, ?_, fun k hk => h3 k (by omega)⟩
  · by_cases e : k = t
    · subst e; rw [h2]; simp [textsOf]
    · exact h1 k (by omega)
  · rw [h3 (t + 1) (by omega)]; rfl

theorem RInv.skip {g : Ghost} {w : World} {L : List Ln} {lv : Value} {t : Int} {i : Nat} {wr : World} (h : RInv g w L lv t i wr) (hi : i < L.length) (hne : L[i].1 ≠ t) : RInv g w L lv t (i + 1) wr := by
  obtain ⟨g', S, r, s, o, n, h1, h2, h3⟩ := h
  exact ⟨g', S, r, s, o, n, h1, by rw [h2, textsOf_drop_lt hi, if_neg hne], h3⟩

theorem BIn.of_old {g : Ghost} {w0 w1 : World} {a : Option Addr} {l : Bytes} (t1 : Turn (fun _ => False) w0 w1) (htag : ∀ k, k < w0.heap.size → g.ρ k = (0, 0))
    (hin : l = [] ∨ ∃ b off, a = some ⟨b, off, none⟩ ∧ ∀ i (h : i < l.length), w0.cell? ⟨b, off + i, none⟩ = some (.int .u8 (l[i].toNat : Int))) : BIn g.ρ w1 a l := by
  by_cases hl : l = []
  · exact .inl hl
  · obtain ⟨b, off, ha, hc⟩ := hin.resolve_left hl
    have h0 := hc 0 (List.length_pos_iff.2 hl)
    have hb := World.block_lt_of_cell? w0 _ h0
    exact .inr ⟨b, off, ha, by rw [htag b hb], Nat.lt_of_lt_of_le hb t1.size, fun i hi => by
      have hb' : (⟨b, off + i, none⟩ : Addr).block < w0.heap.size := hb
      rw [t1.cell (fun h => h) hb']; exact hc i hi⟩

set_option maxHeartbeats 2000000 in
theorem reads_calls (w0 : World) (l : Bytes) (a : Option Addr) (cap : Nat) (hl : l.length ≤ 1000)
    (hin : l = [] ∨ ∃ b off, a = some ⟨b, off, none⟩ ∧ ∀ i (h : i < l.length), w0.cell? ⟨b, off + i, none⟩ = some (.int .u8 (l[i].toNat : Int))) :
    Calls Try.prog 3 #[.slice a l.length cap] w0 fun e w' => e = .returned (.bool true) ∧ Old w0 w' := by
  have hl' : ¬ ((1000 : Int) < (l.length : Int)) := by omega
  have HI := Lib.hid hin
  clear hin
  go_enter Try.func3, Try.ntmps3
  go_wp2_with (first
    | (go_at_call 7; refine (new_calls w0).mono ?_; rintro e1 w1 ⟨g, rfl, r1, t1, htag, hgc⟩; have HT := Lib.hid htag; clear htag)
    | (go_at_call 8; refine (type_calls (g := g) a cap l rfl r1 CS.new_ok (CS.new_small) (by omega) (by omega) (BIn.of_old t1 HT.out HI.out)).mono ?_; rintro e2 w2 ⟨v2, g2, rfl, r2, s2, o2, n2⟩
       obtain ⟨qa, qn, qc, rfl, ql, -⟩ := o2.form
       have htx := fun k => CS.type_texts CS.new l k
       have htk := CS.type_tasks CS.new_ok l
       have hln := CS.type_lines CS.new l
       generalize hR : CS.new.type l = R at *
       clear hR
       obtain ⟨S2, L⟩ := R
       rw [lcells_length] at ql
       obtain rfl : qn = L.length := by (have ql' : L.length * 2 = qn * 2 := ql; omega)
       have HX := Lib.hid htx
       have HK := Lib.hid htk
       have HN := Lib.hid n2
       clear ql htx htk n2))
  go_loopw [5] (fun tv wr => ∃ t : Nat, t ≤ 101 ∧ tv = .int .i64 t ∧ RInv g2 w2 L (.slice qa L.length qc) t 0 wr) (fun tv _ => 101 - (intOf tv).toNat)
  case atStart =>
    refine ⟨0, by omega, rfl, g2, S2, r2, Step.refl _ _, o2, fun b hb => ⟨o2.lt b hb, (HN.out b hb).2⟩, fun k hk => ?_, ?_, fun k hk => ?_⟩
    · rw [HX.out, textsOf_none]
      · rfl
      · intro x hx; have := HK.out x hx; omega
    · rw [HX.out]; rfl
    · rw [HX.out]; rfl
  case round =>
    obtain ⟨t, ht, rfl, inv⟩ := hrel
    by_cases hlt : t ≤ 100
    · have hg : ((t : Int) ≤ 100) := by omega
      go_wp2
      go_loopw [6] (fun iv wx => ∃ i : Nat, i ≤ L.length ∧ iv = .int .i64 i ∧ RInv g2 w2 L (.slice qa L.length qc) t i wx) (fun iv _ => L.length - (intOf iv).toNat)
      case atStart => exact ⟨0, Nat.zero_le _, rfl, inv⟩
      case round =>
        obtain ⟨i, hi, rfl, inv1⟩ := hrel
        by_cases hil : i < L.length
        · have inv2 := inv1
          obtain ⟨g3, S3, r3, s3, o3, n3, h31, h32, h33⟩ := inv1
          obtain ⟨qb, qo, rfl⟩ := o3.addr (by omega)
          have hx := lcells_get L i hil
          have l0 := o3.cells _ _ hx.1
          have l1 := o3.cells _ _ hx.2
          have hxt := HK.out L[i] (List.getElem_mem hil)
          have hdrop := textsOf_drop_lt (k := (t : Int)) hil
          rw [← h32] at hdrop
          have HD := Lib.hid hdrop
          generalize hx1 : L[i] = x at *
          have HX1 := Lib.hid hx1
          have HXX := Lib.hid hx
          clear hx hdrop hx1 h32
          by_cases he : x.1 = t
          · have hne : (x.1 != (t : Int)) = false := by simp [he]
            have ht1 : 1 ≤ t := by omega
            have ht2 : t ≤ 99 := by omega
            have hg1 : ¬ ((t : Int) < 1) := by omega
            have hg2 : ¬ ((99 : Int) < (t : Int)) := by omega
            have hS : S3.lines t = x.2 :: textsOf t (L.drop (i + 1)) := by rw [HD.out, if_pos he]
            have HS := Lib.hid hS
            have HE := Lib.hid he
            clear hS he
            go_wp2_with (go_at_call 9; refine (read_some t (wf_i64 (by omega) (by omega)) (s2.trans s3).c r3 HS.out).mono ?_; rintro e4 w4 ⟨rfl, g4, r4, s4⟩
                         have o4 := o3.turn s4.turn (fun q hq => by have := (n3 q hq).2; rw [s3.tags q (n3 q hq).1]; simp [this])
                         have m0 := o4.cells _ _ HXX.out.1
                         have m1 := o4.cells _ _ HXX.out.2
                         unfold str at m1
                         rw [← Nat.add_assoc] at m1)
            refine ⟨⟨i + 1, by omega, by go_num, g4, _, r4, s3.trans s4, o4, n3, fun k hk => ?_, ?_, fun k hk => ?_⟩, by simp [intOf]; omega⟩
            · show upd S3.lines t _ k = []
              rw [upd_ne _ _ (by omega)]; exact h31 k hk
            · show upd S3.lines t _ t = _
              rw [upd_self]
            · show upd S3.lines t _ k = _
              rw [upd_ne _ _ (by omega)]; exact h33 k hk
          · have hne : (x.1 != (t : Int)) = true := by simp [he]
            have HE := Lib.hid he
            clear he
            go_wp2
            exact ⟨⟨i + 1, by omega, by go_num, inv2.skip hil (by rw [HX1.out]; exact HE.out)⟩, by simp [intOf]; omega⟩
        · obtain rfl : i = L.length := by omega
          have inv2 := inv1
          obtain ⟨g3, S3, r3, s3, o3, n3, h31, h32, h33⟩ := inv1
          have h32' : S3.lines t = [] := by rw [h32]; simp [textsOf]
          have HS := Lib.hid h32'
          clear h32 h32' h31 h33
          go_wp2_with (go_at_call 9; refine (read_none t (wf_i64 (by omega) (by omega)) (s2.trans s3).c r3 HS.out).mono ?_; rintro e4 w4 ⟨rfl, rfl⟩)
          exact ⟨⟨t + 1, by omega, by go_num, inv2.read_done⟩, by simp [intOf]; omega⟩
    · obtain rfl : t = 101 := by omega
      obtain ⟨g3, S3, r3, s3, o3, n3, h31, h32, h33⟩ := inv
      go_wp2_with (go_at_call 10; refine (awake_calls _).mono ?_; rintro e4 w4 ⟨rfl, t4⟩)
      go_ret
      have hs := (s2.trans s3).turn.size
      have ho := (s2.trans s3).old t1 HT.out
      refine ⟨rfl, ho.trans (t4.mono fun k _ hk => ?_)⟩
      have h5 := ho.size
      omega
end Go.Con
