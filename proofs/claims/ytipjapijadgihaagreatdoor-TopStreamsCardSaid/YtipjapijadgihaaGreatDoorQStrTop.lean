/-
  TopStreams: the disk, the streams, the console.
-/
import Derived.Laws.IdiomStrings
import Derived.Test.YtipjapijadgihaaGreatDoorQStrCon3
import Derived.Test.YtipjapijadgihaaGreatDoorQStrOpen2
import Derived.Test.YtipjapijadgihaaGreatDoorQStrPour2
import Derived.Test.YtipjapijadgihaaGreatDoorQStrFiles
import Derived.Test.YtipjapijadgihaaGreatDoorQFlrIn
set_option linter.unusedVariables false

namespace Go.Str
open Go.Own Go.RowKit Go.Proofs

/-- Strings in a row. -/
def LinesAt (w : World) (v : Value) (ls : List Bytes) : Prop :=
  (v = .slice none 0 0 ∧ ls = []) ∨ ∃ a cap, v = .slice (some a) ls.length cap ∧ (∀ i l, ls[i]? = some l → w.cell? (a.add i) = some (.string (bs l)))

def okLine (l : Bytes) : Prop := l.length ≤ 79 ∧ ∀ x ∈ l, 32 ≤ x.toNat ∧ x.toNat ≤ 126

theorem LinesAt.turn {w w' : World} {v : Value} {ls : List Bytes} (h : LinesAt w v ls) (ht : Turn (fun _ => False) w w') : LinesAt w' v ls := by
  rcases h with h | ⟨a, cap, rfl, h⟩
  · exact .inl h
  · refine .inr ⟨a, cap, rfl, fun i l hl => ?_⟩
    have := h i l hl
    rw [ht.cell (fun e => e) (World.block_lt_of_cell? w _ this)]
    exact this
theorem LinesAt.form {w : World} {v : Value} {ls : List Bytes} (h : LinesAt w v ls) : ∃ a cap, v = .slice a ls.length cap := by
  rcases h with ⟨rfl, rfl⟩ | ⟨a, cap, rfl, h⟩
  · exact ⟨none, 0, rfl⟩
  · exact ⟨_, cap, rfl⟩
theorem LinesAt.addr {w : World} {a : Option Addr} {n cap : Nat} {ls : List Bytes} (h : LinesAt w (.slice a n cap) ls) (hn : 0 < n) : ∃ b, a = some b ∧ ∀ i l, ls[i]? = some l → w.cell? (b.add i) = some (.string (bs l)) := by
  rcases h with ⟨h, _⟩ | ⟨b, cap', hv, h⟩
  · cases h; omega
  · cases hv; exact ⟨b, rfl, h⟩

theorem bytesRow_take (data : Bytes) (cc : Nat) : ((bytesRow (bs data) cc).toList.drop 0).take data.length = bcells data := by
  have h : (bytesRow (bs data) cc).toList = bcells data ++ List.replicate (cc - data.length) (.int .u8 0) := by
    unfold bytesRow bcells bs
    rw [Array.toList_append, Array.toList_map, Array.toList_replicate]
    rfl
  rw [h, List.drop_zero, List.take_append_of_le_length (by rw [bcells_length]; exact Nat.le_refl _), List.take_of_length_le (by rw [bcells_length]; exact Nat.le_refl _)]

theorem string_back {w : World} {v : Value} {X : Bytes} (h : SliceAt w 5 1 v (bcells X)) : (convert 30 9 v).run Tryz.prog w = .ok (.string (bs X)) w := by
  rcases h with ⟨rfl, h⟩ | ⟨g, off, n, cap, cur, rfl, hg, hl, hn, hm, hs, hx⟩
  · obtain rfl : X = [] := by cases X with | nil => rfl | cons => simp [bcells] at h
    exact Lib.run_convert_nil_bytes w 30 9 5 0 Tryz.underlying30 Tryz.underlying5 Tryz.underlying9
  · have hs2 : SliceAt w 5 1 (.slice (some ⟨g, off, none⟩) n cap) (bcells X) := .inr ⟨g, off, n, cap, cur, rfl, hg, hl, hn, hm, hs, hx⟩
    obtain rfl : X.length = n := by rw [bcells_length] at hl; omega
    exact run_convert_bytes_back w 30 9 5 ⟨g, off, none⟩ cap X Tryz.underlying30 Tryz.underlying5 Tryz.underlying9 fun j hj => (congrArg w.cell? (Addr.add_lit ..)).trans (hs2.cells j _ (by unfold bcells; rw [List.getElem?_map, List.getElem?_eq_getElem hj]; rfl))

/-- The loop over the lines. -/
def LnI (w0 : World) (ls : List Bytes) (gk : Nat) (iv dv : Value) (w : World) : Prop :=
  ∃ i, gk + i = ls.length ∧ iv = .int .i64 (i : Nat) ∧ dv = .string (bs (flat (ls.take i))) ∧ (∀ l ∈ ls.take i, okLine l) ∧ (flat (ls.take i)).length ≤ 80 * i ∧ Turn (fun _ => False) w0 w
/-- The loop over a line's bytes. -/
def ByI (w0 : World) (l : Bytes) (gk : Nat) (kv : Value) (w : World) : Prop :=
  ∃ k, gk + k = l.length ∧ kv = .int .i64 (k : Nat) ∧ (∀ x ∈ l.take k, 32 ≤ x.toNat ∧ x.toNat ≤ 126) ∧ Turn (fun _ => False) w0 w

def S1 : SS := ⟨fun _ => none, fun _ => none, fun _ => none, upd (fun _ => none) 1 (some (.wr nOne [])), 1⟩
def S2 (b : Bytes) : SS := ⟨fun _ => none, fun _ => none, fun _ => none, upd (upd (fun _ => none) 1 (some (.wr nOne []))) 1 (some (.wr nOne ([] ++ b))), 1⟩
def S3 (b : Bytes) : SS := ⟨F1 b, fun _ => none, fun _ => none, fun _ => none, 1⟩
theorem S3_eq (b : Bytes) : { S2 b with handles := upd (S2 b).handles 1 none, files := updB (S2 b).files nOne (some ([] ++ b)) } = S3 b := by
  have e : upd (upd (upd (fun _ => none) 1 (some (Hd.wr nOne []))) 1 (some (.wr nOne ([] ++ b)))) 1 none = fun _ => none := by
    rw [upd_upd, upd_upd]
    funext j
    by_cases e : j = 1
    · subst e; rw [upd_self]
    · rw [upd_ne _ _ e]
  show SS.mk (F1 b) (fun _ => none) (fun _ => none) (upd (upd (upd (fun _ => none) 1 (some (Hd.wr nOne []))) 1 (some (.wr nOne ([] ++ b)))) 1 none) 1 = S3 b
  rw [e]
  rfl

section
variable {g : Gh} {w : World} {b : Bytes}
theorem top_open (h : Rep g SS.new w) {sb : Nat} (hs : g.s = sb) : Calls Tryz.prog 9 #[pt sb, .string (bs nOne), .int .i64 1] w (HandPost g S1 1 w) :=
  open_file_write h hs (name := nOne) (to_ := nRamOne) (path := nOne) (Nat.zero_le _) (resolve_one h.base.env sb) (by decide) (by decide) (by decide) (by decide) (fun _ _ _ (e : none = some _) => by cases e)
theorem top_write (h : Rep g S1 w) {sb : Nat} (hs : g.s = sb) {u : Value} (hu : SliceAt w 5 1 u (bcells b)) (hb : b.length ≤ 2000) : Calls Tryz.prog 10 #[pt sb, .int .i64 1, u] w (WritePost g (S2 b) b.length w) :=
  write_wr h hs (path := nOne) (xs := []) (i := 1) rfl (by decide) hu (by simp; omega)
theorem top_close (h : Rep g (S2 b) w) {sb : Nat} (hs : g.s = sb) : Calls Tryz.prog 11 #[pt sb, .int .i64 1] w (ClosePost g (S3 b) w) := by
  have := close_wr h hs (path := nOne) (b := [] ++ b) (i := 1) (show upd (upd (fun _ => none) 1 (some (Hd.wr nOne []))) 1 (some (Hd.wr nOne ([] ++ b))) 1 = _ from upd_self _ _ _) (Nat.le_of_ble_eq_true rfl) (by decide)
  rw [S3_eq] at this
  exact this
theorem top_assign (h : Rep g (S3 b) w) {sb : Nat} (hs : g.s = sb) : Calls Tryz.prog 12 #[pt sb, .string (bs nDir), .string (bs nRamSub)] w (ClosePost g (Cp0 b) w) :=
  assign_calls h hs rfl
end

/-- The loop over the files: the console is written at the third. -/
def FlI (w0 : World) (c om : Nat) (data : Bytes) (l : List FE) (gk : Nat) (iv : Value) (w : World) : Prop :=
  ∃ i X sv ov, gk + i = 3 ∧ iv = .int .i64 (i : Nat) ∧ X = (if (2 : Fin 3) ∈ (l.take i).map FE.i then data else []) ∧ CI w0 c om [] X sv ov w

theorem fcells_at {l : List FE} {i : Nat} {x : FE} (h : l[i]? = some x) : (fcells l)[i * 2]? = some (.string (bs (nameF x.i))) ∧ (fcells l)[i * 2 + 1]? = some (.slice x.a x.n x.c) := by
  have hi := (List.getElem?_eq_some_iff.1 h).1
  have hx : l[i]! = x := by rw [getElem!_pos l i hi]; exact (List.getElem?_eq_some_iff.1 h).2
  constructor
  · rw [fcells_get l (i * 2) (by omega), show i * 2 / 2 = i by omega, show i * 2 % 2 = 0 by omega, hx]; rfl
  · rw [fcells_get l (i * 2 + 1) (by omega), show (i * 2 + 1) / 2 = i by omega, show (i * 2 + 1) % 2 = 1 by omega, hx]; rfl

theorem two_first {l : List FE} {i : Nat} {x : FE} (hp : (l.map FE.i).Perm [0, 1, 2]) (h : l[i]? = some x) (hx : x.i = 2) : (2 : Fin 3) ∉ (l.take i).map FE.i := by
  have hn : (l.map FE.i).Nodup := hp.nodup_iff.2 (by decide)
  have hi := (List.getElem?_eq_some_iff.1 h).1
  have e : l = l.take i ++ x :: l.drop (i + 1) := by
    have := (List.getElem?_eq_some_iff.1 h).2
    rw [← this, ← List.drop_eq_getElem_cons hi, List.take_append_drop]
  rw [e, List.map_append, List.map_cons, List.nodup_append] at hn
  intro hm
  exact hn.2.2 _ hm _ (List.mem_cons_self ..) hx.symm

section
variable {w : World} {lv : Value} {ls : List Bytes}

set_option maxRecDepth 20000 in
set_option maxHeartbeats 8000000 in
theorem top_calls (hE : Env w) (h0 : 0 < w.heap.size) (hL : LinesAt w lv ls) (hlm : ls.length ≤ maxLen) (hln : ∀ l ∈ ls, l.length ≤ maxLen) (p : Int) :
    Calls Tryz.prog 3 #[lv, .int .i64 p] w fun e w' => e = .returned (.bool true) ∧ Turn (fun _ => False) w w' := by
  obtain ⟨la, lc, rfl⟩ := hL.form
  obtain ⟨N, hN⟩ : ∃ N, ls.length = N := ⟨_, rfl⟩
  have HN := Lib.hid hN
  rw [hN] at hL ⊢
  have H := Lib.hid (And.intro hL (And.intro hlm (And.intro hln (And.intro hE h0))))
  clear hL hlm hln hE h0 hN
  by_cases hbig : (40 : Int) < (N : Int)
  · go_enter Tryz.func3, Tryz.ntmps3
    go_wp2_with fail
    go_ret
    exact ⟨rfl, Turn.refl _ _⟩
  by_cases hp1 : p < 1
  · go_enter Tryz.func3, Tryz.ntmps3
    go_wp2_with fail
    go_ret
    exact ⟨rfl, Turn.refl _ _⟩
  obtain ⟨pn, rfl⟩ := Int.eq_ofNat_of_zero_le (show 0 ≤ p by omega)
  by_cases hp2 : (100 : Int) < (pn : Int)
  · go_enter Tryz.func3, Tryz.ntmps3
    go_wp2_with fail
    go_ret
    exact ⟨rfl, Turn.refl _ _⟩
  have HI := Lib.hid (show LnI w ls N (.int .i64 0) (.string (bs [])) w from ⟨0, by rw [HN.out]; rfl, rfl, rfl, by simp, by simp [flat], Turn.refl _ _⟩)
  go_enter Tryz.func3, Tryz.ntmps3
  go_wp2_with fail
  have HN40 := Lib.hid (show N ≤ 40 by omega)
  have HP := Lib.hid (show 1 ≤ pn ∧ pn ≤ 100 by omega)
  clear hbig
  go_loopg [6, 5] (N) (fun GK iv dv wr => LnI w ls GK iv dv wr)
  case atStart => exact HI.out
  case round =>
    rename Nat => GK
    obtain ⟨i, hgk, rfl, rfl, hok, hfl, hT⟩ := hrel
    have hN := HN.out
    rw [hN] at hgk
    by_cases hi : i < N
    · obtain ⟨l, hl⟩ : ∃ l, ls[i]? = some l := ⟨_, List.getElem?_eq_getElem (by rw [hN]; exact hi)⟩
      obtain ⟨lb, rfl, hcells⟩ := (H.out.1.turn hT).addr (by omega)
      have hc := hcells i l hl
      have HT := Lib.hid (And.intro hT (And.intro hgk (And.intro hok (And.intro hfl hl))))
      have hi' : (i : Int) < (N : Int) := by omega
      obtain ⟨D, hD⟩ : ∃ D, bs (flat (ls.take i)) = D := ⟨_, rfl⟩
      rw [hD]
      have HD := Lib.hid hD
      obtain ⟨n, hn⟩ : ∃ n, l.length = n := ⟨_, rfl⟩
      have hsz : (bs l).size = n := (bs_size l).trans hn
      have Hn := Lib.hid hn
      clear hcells hT hgk hok hfl hl hN hD hn
      by_cases h79 : (79 : Int) < (n : Int)
      · go_wp2_with fail
        go_ret
        exact ⟨rfl, HT.out.1⟩
      have HL2 := Lib.hid (show ByI wr l n (.int .i64 0) wr from ⟨0, by rw [Hn.out]; rfl, rfl, by simp, Turn.refl _ _⟩)
      go_wp2_with fail
      go_loopg [7] (n) (fun gk kv wq => ByI wr l gk kv wq)
      case atStart => exact HL2.out
      case round =>
        obtain ⟨k, hgk2, rfl, hok2, hT2⟩ := hrel
        rename World => wq
        have hn := Hn.out
        rw [hn] at hgk2
        have hc2 : wq.cell? (lb.add i) = some (.string (bs l)) := by
          rw [hT2.cell (fun e => e) (World.block_lt_of_cell? wr _ hc)]; exact hc
        have HT2 := Lib.hid (And.intro hT2 (And.intro hgk2 hok2))
        have hE2 := Lib.hid ((H.out.2.2.2.1.turn HT.out.1 (fun e => e)).turn hT2 (fun e => e))
        clear hT2 hgk2 hok2 hc hn
        by_cases hk : k < n
        · have hkk : k < (bs l).size := by rw [hsz]; exact hk
          have hk' : (k : Int) < (n : Int) := by omega
          by_cases hx1 : (((bs l)[k]'hkk).toNat : Int) < 32
          · go_wp2_with fail
            refine (awake_calls hE2.out).mono ?_
            rintro e1 w1 ⟨rfl, T1⟩
            have HT1 := Lib.hid T1
            clear T1
            go_wp2_with fail
            go_ret
            exact ⟨rfl, (HT.out.1.trans HT2.out.1).trans HT1.out⟩
          by_cases hx2 : (126 : Int) < (((bs l)[k]'hkk).toNat : Int)
          · go_wp2_with fail
            refine (awake_calls hE2.out).mono ?_
            rintro e1 w1 ⟨rfl, T1⟩
            have HT1 := Lib.hid T1
            clear T1
            go_wp2_with fail
            go_ret
            exact ⟨rfl, (HT.out.1.trans HT2.out.1).trans HT1.out⟩
          have hw : wrap64 ((k : Int) + 1) = ((k + 1 : Nat) : Int) := by
            rw [IntWalk.wrap64_in _ (by omega)]; omega
          have HX := Lib.hid (And.intro hx1 hx2)
          have hn79 := Lib.hid h79
          go_wp2_with fail
          have hgk := HT2.out.2.1
          have hn := Hn.out
          go_roundg (gk - 1)
          case rel =>
            refine ⟨k + 1, by omega, rfl, ?_, HT2.out.1⟩
            rw [List.take_add_one]
            intro x hx
            rcases List.mem_append.1 hx with e | e
            · exact HT2.out.2.2 x e
            · rw [List.getElem?_eq_getElem (by omega)] at e
              obtain rfl : x = l[k] := by simpa using e
              have h1 : (32 : Int) ≤ ((l[k]).toNat : Int) := HX.out.1
              have h2 : ((l[k]).toNat : Int) ≤ (126 : Int) := HX.out.2
              omega
          case measure => omega
        · have hDs : D.size ≤ 80 * N := by
            rw [← HD.out, bs_size]
            have := HT.out.2.2.2.1
            have : 80 * i ≤ 80 * N := by omega
            omega
          have hN40 := HN40.out
          have hn79 := Lib.hid h79
          have hLk : ls.take (i + 1) = ls.take i ++ [l] := by
            rw [List.take_add_one, HT.out.2.2.2.2]; rfl
          have hl2 : ∀ x ∈ l, 32 ≤ x.toNat ∧ x.toNat ≤ 126 := by
            have h := HT2.out.2.2
            have hn := Hn.out
            rw [List.take_of_length_le (by rw [hn]; omega)] at h
            exact h
          have hst : D ++ (bs l ++ { data := #[10] }) = bs (flat (ls.take (i + 1))) := by
            rw [hLk, flat_snoc, ← HD.out]
            rfl
          have HS := Lib.hid (And.intro hLk (And.intro hl2 hst))
          clear hLk hl2 hst
          have hw : wrap64 ((i : Int) + 1) = ((i + 1 : Nat) : Int) := by
            rw [IntWalk.wrap64_in _ (by omega)]; omega
          go_wp2_with fail
          have hgk := HT.out.2.1
          go_roundg (GK - 1)
          case rel =>
            refine ⟨i + 1, by rw [HN.out]; omega, rfl, congrArg Value.string HS.out.2.2, ?_, ?_, HT.out.1.trans HT2.out.1⟩
            · rw [HS.out.1]
              intro x hx
              rcases List.mem_append.1 hx with e | e
              · exact HT.out.2.2.1 x e
              · obtain rfl : x = l := by simpa using e
                have := Hn.out
                exact ⟨by have := hn79.out; omega, HS.out.2.1⟩
            · rw [HS.out.1, flat_snoc, List.length_append, List.length_append]
              have := HT.out.2.2.2.1
              have := Hn.out
              have := hn79.out
              simp only [List.length_cons, List.length_nil]
              omega
          case measure => omega
    · have hiN : i = N := by omega
      subst hiN
      have hokd := flat_ok _ hok
      obtain ⟨data, hdata⟩ : ∃ d, flat (ls.take i) = d := ⟨_, rfl⟩
      rw [hdata] at hokd hfl ⊢
      obtain ⟨m, hm⟩ : ∃ m, data.length = m := ⟨_, rfl⟩
      have hsz : (bs data).size = m := (bs_size data).trans hm
      have h0 := Nat.lt_of_lt_of_le H.out.2.2.2.2 hT.size
      have HB := Lib.hid (And.intro hT (And.intro (H.out.2.2.2.1.turn hT (fun e => e)) (And.intro h0 (And.intro hokd hm))))
      clear hT hokd hok hfl hgk hi hdata hm h0 HI hN
      by_cases hbig : (2000 : Int) < (m : Int)
      · go_wp2_with fail
        go_ret
        exact ⟨rfl, HB.out.1⟩
      go_wp2_with fail
      have hm2 := Lib.hid hbig
      clear hbig
      refine (Go.Flr.format_calls (n := 64) (by decide) (by decide) HB.out.2.1 HB.out.2.2.1).mono ?_
      rintro e1 w1 ⟨d, g, rfl, hD⟩
      have HD := Lib.hid hD
      clear hD
      have hcv := run_bytes_of_string (P := Tryz.prog) w1 9 30 5 (bs data) Tryz.underlying9 Tryz.underlying30 Tryz.underlying5
      rw [hsz] at hcv
      obtain ⟨cc, hcc⟩ : ∃ cc, grownCap w1 m 0 5 = cc := ⟨_, rfl⟩
      obtain ⟨wc, hwc⟩ : ∃ wc, w1.drew.alloc (.cells (bytesRow (bs data) cc) 5 ((bytesRow (bs data) cc).size, (bytesRow (bs data) cc).size + 1)) = wc := ⟨_, rfl⟩
      rw [hcc, hwc] at hcv
      have T1c : Turn (fun _ => False) w1 wc := by rw [← hwc]; exact ((Turn.refl _ w1).drew).alloc _
      have hcap1 := grownCap_ge w1 m 0 5
      have hcap2 := grownCap_le_maxLen w1 m 0 5 (by have := hm2.out; have : maxLen = 9223372036854775807 := rfl; omega)
      rw [hcc] at hcap1 hcap2
      have hrd : Go.Flr.RdAt wc (.slice (some ⟨w1.heap.size, 0, none⟩) m cc) (bcells data) := by
        rw [← hwc]
        refine .inr ⟨w1.heap.size, 0, m, cc, _, _, rfl, heap_alloc_new w1.drew _, by rw [bcells_length]; exact HB.out.2.2.2.2, hcap1, hcap2, ?_⟩
        rw [← HB.out.2.2.2.2]
        exact bytesRow_take data cc
      have HDc := Lib.hid (And.intro (HD.out.new T1c) (And.intro hrd T1c))
      clear hcc hwc hcap1 hcap2 hrd T1c
      go_wp2_with fail
      refine (Go.Flr.do_in HDc.out.1 (Nat.zero_le _) HDc.out.2.1 (fun k hk => by
        obtain rfl : w1.heap.size = k := by simpa [Value.ownBlock] using hk
        have h1 := heap_lt HD.out.db
        have h2 := heap_lt HD.out.gb
        exact ⟨by omega, by omega⟩) (by have := hm2.out; have := HB.out.2.2.2.2; omega)).mono ?_
      rintro e2 w2 ⟨⟨k2, rfl⟩, D2, L2, lv2, hin, hD2, -⟩
      have HR := Lib.hid (And.intro hin hD2)
      clear hin hD2
      go_wp2_with fail
      refine (Go.Flr.read_in HR.out.2 HR.out.1 (by have := hm2.out; have := HB.out.2.2.2.2; omega)).mono ?_
      rintro e3 w3 ⟨u, rfl, hO⟩
      have T3 := (HB.out.1.trans HR.out.2.turn).trans hO.turn
      have hu : SliceAt w3 5 1 u (bcells data) := hO.at_
      obtain ⟨ua, uc, rfl, -, -⟩ := bytes_form hu
      rw [bcells_length, HB.out.2.2.2.2] at hu ⊢
      have H3 := Lib.hid (And.intro hu (And.intro T3 (H.out.2.2.2.1.turn T3 (fun e => e))))
      clear hO hu T3 HR HDc HD
      go_wp2_with fail
      refine (new_calls H3.out.2.2).mono ?_
      rintro e4 w4 ⟨g4, rfl, hs4, R4, T4, Z4⟩
      obtain ⟨sb, hsb⟩ : ∃ sb, g4.s = sb := ⟨_, rfl⟩
      have H4 := Lib.hid (And.intro R4 (And.intro T4 (And.intro Z4 hsb)))
      rw [hsb]
      clear R4 T4 Z4 hsb hs4
      go_wp2_with fail
      refine (top_open H4.out.1 H4.out.2.2.2).mono ?_
      rintro e5 w5 ⟨rfl, g5, R5, S5⟩
      obtain ⟨T5, Z5⟩ := S5.after_new H4.out.2.1 H4.out.2.2.1
      have H5 := Lib.hid (And.intro R5 (And.intro T5 (And.intro Z5 (S5.s.trans H4.out.2.2.2))))
      clear R5 S5 T5 Z5 H4
      go_wp2_with fail
      refine (top_write H5.out.1 H5.out.2.2.2 (H3.out.1.turn H5.out.2.1 (fun _ _ e => e)) (by have := hm2.out; have := HB.out.2.2.2.2; omega)).mono ?_
      rintro e6 w6 ⟨rfl, g6, R6, S6⟩
      obtain ⟨T6, Z6⟩ := S6.after_new H5.out.2.1 H5.out.2.2.1
      have H6 := Lib.hid (And.intro R6 (And.intro T6 (And.intro Z6 (S6.s.trans H5.out.2.2.2))))
      clear R6 S6 T6 Z6 H5
      go_wp2_with fail
      refine (top_close H6.out.1 H6.out.2.2.2).mono ?_
      rintro e7 w7 ⟨rfl, g7, R7, S7⟩
      obtain ⟨T7, Z7⟩ := S7.after_new H6.out.2.1 H6.out.2.2.1
      have H7 := Lib.hid (And.intro R7 (And.intro T7 (And.intro Z7 (S7.s.trans H6.out.2.2.2))))
      clear R7 S7 T7 Z7 H6
      go_wp2_with fail
      refine (top_assign H7.out.1 H7.out.2.2.2).mono ?_
      rintro e8 w8 ⟨rfl, g8, R8, S8⟩
      obtain ⟨T8, Z8⟩ := S8.after_new H7.out.2.1 H7.out.2.2.1
      have H8 := Lib.hid (And.intro R8 (And.intro T8 (And.intro Z8 (S8.s.trans H7.out.2.2.2))))
      clear R8 S8 T8 Z8 H7
      go_wp2_with fail
      refine (copy_calls H8.out.1 H8.out.2.2.2 (by have := hm2.out; have := HB.out.2.2.2.2; omega)).mono ?_
      rintro e9 w9 ⟨rfl, g9, R9, S9⟩
      obtain ⟨T9, Z9⟩ := S9.after_new H8.out.2.1 H8.out.2.2.1
      have H9 := Lib.hid (And.intro R9 (And.intro T9 (And.intro Z9 (S9.s.trans H8.out.2.2.2))))
      rw [HB.out.2.2.2.2]
      clear R9 S9 T9 Z9 H8
      go_wp2_with fail
      refine (poured_calls H9.out.1 H9.out.2.2.2 (by have := hm2.out; have := HB.out.2.2.2.2; omega) HP.out.1 HP.out.2).mono ?_
      rintro e10 w10 ⟨rfl, g10, R10, S10⟩
      obtain ⟨T10, Z10⟩ := S10.after_new H9.out.2.1 H9.out.2.2.1
      have H10 := Lib.hid (And.intro R10 (And.intro T10 (And.intro Z10 (S10.s.trans H9.out.2.2.2))))
      clear R10 S10 T10 Z10 H9
      go_wp2_with fail
      refine (files_calls H10.out.1 rfl (by have := hm2.out; have := HB.out.2.2.2.2; omega) H10.out.2.2.2).mono ?_
      rintro e11 w11 ⟨v, l, rfl, hv, T11, hpm, hdl⟩
      have hl3 : l.length = 3 := by have := hpm.length_eq; simpa using this
      obtain ⟨va, vc, rfl⟩ : ∃ va vc, v = .slice va 3 vc := by
        obtain ⟨a, n, c, rfl, h1, -⟩ := hv.form
        obtain rfl : n = 3 := by rw [fcells_length, hl3] at h1; omega
        exact ⟨a, c, rfl⟩
      have H11 := Lib.hid (And.intro hv (And.intro T11 (And.intro hpm (And.intro hdl hl3))))
      clear hv T11 hpm hdl hl3
      go_wp2_with fail
      refine (cnew_calls w11).mono ?_
      rintro e12 w12 ⟨rfl, om, hC⟩
      have H12 := Lib.hid hC
      obtain ⟨cb, hcb⟩ : ∃ cb, w11.heap.size = cb := ⟨_, rfl⟩
      rw [hcb] at hC ⊢
      have H12 := Lib.hid (show FlI w11 cb om data l 3 (.int .i64 0) w12 from ⟨0, [], _, _, rfl, rfl, by simp, hC⟩)
      clear hC hcb
      go_wp2_with fail
      go_loopg [19] (3) (fun gk iv wr => FlI w11 cb om data l gk iv wr)
      case atStart => exact H12.out
      case round =>
        rename World => wf
        obtain ⟨j, X, sv, ov, hgk, rfl, hX, hC⟩ := hrel
        have hT := hC.turn
        by_cases hj : j < 3
        · obtain ⟨x, hx⟩ : ∃ x, l[j]? = some x := ⟨_, List.getElem?_eq_getElem (by rw [H11.out.2.2.2.2]; exact hj)⟩
          obtain ⟨vb, vo, rfl⟩ := H11.out.1.addr (by decide)
          have hcl := (H11.out.1.turn hT (fun _ _ e => e)).cells
          obtain ⟨f0, f1⟩ := fcells_at hx
          have c0 := hcl _ _ f0
          have c1 : wf.cell? ⟨vb, vo + j * 2 + 1, none⟩ = some (.slice x.a x.n x.c) := hcl _ _ f1
          have HX := Lib.hid (And.intro hX (And.intro hgk (And.intro hx hC)))
          have hj' : (j : Int) < 3 := by omega
          clear hcl f0 f1 hT hC hX hgk hx
          have hw : wrap64 ((j : Int) + 1) = ((j + 1 : Nat) : Int) := by
            rw [IntWalk.wrap64_in _ (by omega)]; omega
          by_cases hx2 : x.i = 2
          · rw [hx2] at c0
            have c0' : wf.cell? ⟨vb, vo + j * 2, none⟩ = some (.string ⟨#[116, 104, 114, 101, 101]⟩) := c0
            have HN2 := Lib.hid (two_first H11.out.2.2.1 HX.out.2.2.1 hx2)
            have Hx2 := Lib.hid hx2
            clear c0 hx2
            go_wp2_with fail
            have hX0 : X = [] := by rw [HX.out.1, if_neg HN2.out]
            subst hX0
            refine (cwrite_calls HX.out.2.2.2 (H11.out.2.2.2.1 x (List.mem_of_getElem? HX.out.2.2.1)) (by have := hm2.out; have := HB.out.2.2.2.2; omega) HB.out.2.2.2.1).mono ?_
            rintro e13 w13 ⟨rfl, sv', ov', hC'⟩
            have HC' := Lib.hid hC'
            clear hC' c0' c1
            go_wp2_with fail
            have hgk := HX.out.2.1
            go_roundg (gk - 1)
            case rel =>
              refine ⟨j + 1, data, sv', ov', by omega, rfl, ?_, HC'.out⟩
              rw [List.take_add_one, HX.out.2.2.1, List.map_append, if_pos]
              exact List.mem_append_right _ (by simp [Hx2.out])
            case measure => omega
          have h01 : x.i = 0 ∨ x.i = 1 := by
            have : ∀ y : Fin 3, y ≠ 2 → y = 0 ∨ y = 1 := by decide
            exact this _ hx2
          rcases h01 with hx0 | hx0
          · rw [hx0] at c0
            have c0' : wf.cell? ⟨vb, vo + j * 2, none⟩ = some (.string ⟨#[111, 110, 101]⟩) := c0
            have Hx2 := Lib.hid (show x.i ≠ 2 by rw [hx0]; decide)
            clear c0 c1 hx2 hx0
            go_wp2_with fail
            have hgk := HX.out.2.1
            go_roundg (gk - 1)
            case rel =>
              refine ⟨j + 1, X, sv, ov, by omega, rfl, ?_, HX.out.2.2.2⟩
              rw [HX.out.1, List.take_add_one, HX.out.2.2.1, List.map_append]
              have hn : (2 : Fin 3) ≠ x.i := fun e => Hx2.out e.symm
              simp [hn]
            case measure => omega
          · rw [hx0] at c0
            have c0' : wf.cell? ⟨vb, vo + j * 2, none⟩ = some (.string ⟨#[115, 117, 98, 47, 116, 119, 111]⟩) := c0
            have Hx2 := Lib.hid (show x.i ≠ 2 by rw [hx0]; decide)
            clear c0 c1 hx2 hx0
            go_wp2_with fail
            have hgk := HX.out.2.1
            go_roundg (gk - 1)
            case rel =>
              refine ⟨j + 1, X, sv, ov, by omega, rfl, ?_, HX.out.2.2.2⟩
              rw [HX.out.1, List.take_add_one, HX.out.2.2.1, List.map_append]
              have hn : (2 : Fin 3) ≠ x.i := fun e => Hx2.out e.symm
              simp [hn]
            case measure => omega
        · have hj3 : j = 3 := by omega
          subst hj3
          have hXd : X = data := by
            rw [hX, List.take_of_length_le (by rw [H11.out.2.2.2.2]; exact Nat.le_refl _), if_pos (H11.out.2.2.1.mem_iff.2 (by decide))]
          subst hXd
          have HC := Lib.hid hC
          clear hX hC hT hgk hj
          go_wp2_with fail
          refine (screen_calls HC.out (by have := hm2.out; have := HB.out.2.2.2.2; omega)).mono ?_
          rintro e14 w14 ⟨v2, rfl, hv2, T14⟩
          have hcv := string_back hv2
          have T15 := (H11.out.2.1.trans HC.out.turn).trans T14
          obtain ⟨v2a, v2c, rfl, -, -⟩ := bytes_form hv2
          rw [bcells_length] at hcv ⊢
          have H14 := Lib.hid (And.intro (H10.out.1.new T15) ((T15)))
          clear hv2 T14 T15
          go_wp2_with fail
          clear hcv
          refine (handles_calls H14.out.1 H10.out.2.2.2 rfl).mono ?_
          rintro e15 w15 ⟨rfl, T15⟩
          have H15 := Lib.hid (And.intro (H14.out.1.new T15) (H14.out.2.trans T15))
          clear T15 H14
          go_wp2_with fail
          refine (pipes_calls H15.out.1 H10.out.2.2.2 rfl).mono ?_
          rintro e16 w16 ⟨rfl, T16⟩
          have T17 := (H3.out.2.1.trans (H10.out.2.1.trans (H15.out.2.trans T16)))
          have H16 := Lib.hid (And.intro (H.out.2.2.2.1.turn T17 (fun e => e)) T17)
          clear T16 T17 H15
          go_wp2_with fail
          refine (awake_calls H16.out.1).mono ?_
          rintro e17 w17 ⟨rfl, T17⟩
          have H17 := Lib.hid T17
          clear T17
          go_wp2_with fail
          go_ret
          exact ⟨rfl, H16.out.2.trans H17.out⟩
end
end Go.Str
