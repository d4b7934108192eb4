/-
  ConsoleShows, for every input: the loop over the events.
-/
import Derived.Deep.LoopGhost
import Derived.Deep.CutRange
import Derived.Deep.CutBlock
import Derived.Test.YtjdafmpkobelcaaDoorQConShowsRep
set_option linter.unusedVariables false

namespace Go.Con
open Go.Own Go.RowKit Go.Proofs

/-- The state of the loop over the events. -/
def ShL (w0 : World) (C wb N : Nat) (wr : World) : Prop :=
  ∃ g S G want vs, SW w0 g C wb S vs want wr ∧ SI S G want ∧ S.Ok ∧ S.Small (250 * N) ∧ ∀ t, (want t).length ≤ N

theorem ShL.mono {w0 : World} {C wb N M : Nat} {wr : World} (h : ShL w0 C wb N wr) (hM : N ≤ M) : ShL w0 C wb M wr := by
  obtain ⟨g, S, G, want, vs, a, b, c, d, e⟩ := h
  exact ⟨g, S, G, want, vs, a, b, c, d.mono (by omega), fun t => Nat.le_trans (e t) hM⟩

theorem adds_len (l : Bytes) : (adds l).length ≤ l.length := by
  unfold adds
  rw [List.length_map]
  exact List.length_filter_le _ _

/-- The state of the loop over the bytes of one event: j bytes have been added to what is wanted of task k. -/
structure ByI (w0 : World) (g : Ghost) (C wb bx k : Nat) (S : CS) (want : Nat → Bytes) (bl : Bytes) (o : Obj) (j : Nat) (wx : World) : Prop where
  sw : ∃ vs, SW w0 g C wb S vs (fun t => if t = k then want t ++ adds (bl.take j) else want t) wx
  box : wx.heap[bx]? = some o

/-- What the loops hold of an event's box. -/
structure EvB (w : World) (bx : Nat) (d t : Int) (a : Option Addr) (n c : Nat) : Prop where
  b : w.heap[bx]? = some (.cells #[.int .i64 d, .int .i64 t, .slice a n c] 29 (0, 0))
theorem EvB.cells {w : World} {bx : Nat} {d t : Int} {a : Option Addr} {n c : Nat} (h : EvB w bx d t a n c) : w.cell? ⟨bx, 0, none⟩ = some (.int .i64 d) ∧ w.cell? ⟨bx, 1, none⟩ = some (.int .i64 t) ∧ w.cell? ⟨bx, 2, none⟩ = some (.slice a n c) :=
  ⟨cell_at h.b rfl, cell_at h.b rfl, cell_at h.b rfl⟩

theorem SW.bx_ne {w0 w : World} {g : Ghost} {C wb : Nat} {S : CS} {vs : Nat → Value} {want : Nat → Bytes} (h : SW w0 g C wb S vs want w) {bx : Nat} {d t : Int} {a : Option Addr} {n c : Nat} (hb : EvB w bx d t a n c) : bx ≠ wb ∧ ∀ k, k < 100 → (vs k).ownBlock ≠ some bx := by
  refine ⟨fun e => ?_, fun k hk e => ?_⟩
  · have e2 := Option.some.inj (hb.b.symm.trans (by rw [e]; exact h.blk))
    injection e2 with e3 e4
    exact absurd e4 (by decide)
  · rcases h.sl k hk with ⟨q, -⟩ | ⟨g', o, n, c, cur, q, hg, -⟩
    · rw [q] at e; simp [Value.ownBlock] at e
    · rw [q] at e
      simp [Value.ownBlock] at e
      subst e
      have e2 := Option.some.inj (hb.b.symm.trans hg)
      injection e2 with e3 e4
      exact absurd e4 (by decide)

theorem adds_succ {bl : Bytes} {j : Nat} {x : UInt8} (h : bl[j]? = some x) : adds (bl.take (j + 1)) = adds (bl.take j) ++ add1 x := by
  rw [List.take_add_one, h]
  exact adds_snoc _ _
theorem want_succ {want : Nat → Bytes} {k : Nat} {bl : Bytes} {j : Nat} {x : UInt8} (h : bl[j]? = some x) (h10 : x.toNat ≠ 10) :
    (fun t => if t = k then want t ++ adds (bl.take (j + 1)) else want t) = (fun t => if t = k then (if t = k then want t ++ adds (bl.take j) else want t) ++ [seen x] else (if t = k then want t ++ adds (bl.take j) else want t)) := funext fun t => by
  by_cases ht : t = k
  · rw [if_pos ht, if_pos ht, if_pos ht, adds_succ h]
    unfold add1
    rw [if_neg h10, List.append_assoc]
  · rw [if_neg ht, if_neg ht, if_neg ht]
theorem want_same {want : Nat → Bytes} {k : Nat} {bl : Bytes} {j : Nat} {x : UInt8} (h : bl[j]? = some x) (h10 : x.toNat = 10) :
    (fun t => if t = k then want t ++ adds (bl.take (j + 1)) else want t) = (fun t => if t = k then want t ++ adds (bl.take j) else want t) := funext fun t => by
  by_cases ht : t = k
  · rw [if_pos ht, if_pos ht, adds_succ h]
    unfold add1
    rw [if_pos h10, List.append_nil]
  · rw [if_neg ht, if_neg ht]

/-- The state of the loop that flushes: tasks below t have nothing left. -/
def FlI (w0 : World) (C wb : Nat) (t : Nat) (wr : World) : Prop :=
  ∃ g S G want vs, SW w0 g C wb S vs want wr ∧ SI S G want ∧ S.Ok ∧ S.Small (750000 + 166 * t) ∧ (∀ t, (want t).length ≤ 3000) ∧ ∀ q : Nat, 1 ≤ q → q < t → S.out q = []

theorem FlI.start {w0 : World} {C wb N : Nat} {wr : World} (h : ShL w0 C wb N wr) (hN : N ≤ 3000) : FlI w0 C wb 1 wr := by
  obtain ⟨g, S, G, want, vs, a, b, c, d, e⟩ := h
  exact ⟨g, S, G, want, vs, a, b, c, d.mono (by omega), fun t => Nat.le_trans (e t) hN, fun q h1 h2 => by omega⟩

theorem bodies_filter (t : Nat) (G : List TL) : (G.filter fun x => decide ((x.1 : Int) = (t : Int))).map Prod.snd = bodies t G := by
  unfold bodies
  congr 1
  refine List.filter_congr fun x _ => ?_
  rw [Bool.eq_iff_iff]
  simp only [decide_eq_true_eq]
  omega

def SCells (w : World) (a : Option Addr) (l : List Bytes) : Prop := l = [] ∨ ∃ b off, a = some ⟨b, off, none⟩ ∧ ∀ i (h : i < l.length), w.cell? ⟨b, off + i, none⟩ = some (.string ⟨l[i].toArray⟩)
theorem SCells.of_slice {w : World} {e : TypeId} {a : Option Addr} {n cap : Nat} {l : List Bytes} (h : SliceAt w e 1 (.slice a n cap) (scells l)) : n = l.length ∧ SCells w a l := by
  obtain ⟨a', n', c', hv, hl, _⟩ := h.form
  cases hv
  rw [scells_length, Nat.mul_one] at hl
  refine ⟨hl.symm, ?_⟩
  by_cases h0 : l = []
  · exact .inl h0
  · have : 0 < l.length := List.length_pos_iff.2 h0
    obtain ⟨b, off, rfl⟩ := h.addr (by omega)
    refine .inr ⟨b, off, rfl, fun i hi => h.cells i _ ?_⟩
    simp [scells, hi, str]

def ShowsPost (w0 : World) (e : Ending) (w' : World) : Prop := e = .returned (.bool true) ∧ Old w0 w'

set_option maxRecDepth 20000 in
set_option maxHeartbeats 8000000 in
theorem shows_calls (w0 : World) (l : List Ev) (a : Option Addr) (cap : Nat) (hin : EvIn w0 a l) (hlen : l.length ≤ 9223372036854775807) (hwf : ∀ p ∈ l, p.wf ∧ p.b.length ≤ 140737488351232) :
    Calls Tryd.prog 3 #[.slice a l.length cap] w0 (ShowsPost w0) := by
  have HH := Lib.hid (heavy_calls cap hin hlen fun p hp => (hwf p hp).2)
  by_cases h60 : 60 < l.length
  · have q1 : decide ((60 : Int) < (l.length : Int)) = true := decide_eq_true (by omega)
    have q2 : decide (60 < l.length) = true := decide_eq_true h60
    clear hin hlen hwf h60
    go_enter Tryd.func3, Tryd.ntmps3
    go_wp2_with fail
    go_ret
    exact ⟨rfl, Turn.refl _ _⟩
  have q1 : decide ((60 : Int) < (l.length : Int)) = false := decide_eq_false (by omega)
  have q2 : decide (60 < l.length) = false := decide_eq_false h60
  by_cases hev : 3000 < evW l
  · have HE := Lib.hid (decide_eq_true hev)
    clear hin hlen hwf hev h60
    go_enter Tryd.func3, Tryd.ntmps3
    go_wp2_with fail
    refine HH.out.mono ?_
    rintro e1 w1 ⟨rfl, rfl⟩
    rw [HE.out]
    go_wp2_with fail
    go_ret
    exact ⟨rfl, Turn.refl _ _⟩
  have HE := Lib.hid (decide_eq_false hev)
  have hle : evW l ≤ 3000 := by omega
  have HI := Lib.hid (And.intro hin (And.intro hwf hle))
  have hl3 : l.length ≤ 60 := by omega
  clear hin hlen hwf hev hle h60
  go_enter Tryd.func3, Tryd.ntmps3
  go_wp2_with fail
  refine HH.out.mono ?_
  rintro e1 w1 ⟨rfl, hw1⟩
  rw [HE.out, hw1]
  clear hw1
  go_wp2_with fail
  refine (new_calls w0).mono ?_
  rintro e2 w2 ⟨g, rfl, R0, T0, G0, n0⟩
  obtain ⟨C, hC⟩ : ∃ C, g.c = C := ⟨_, rfl⟩
  have H0 := Lib.hid (And.intro R0 (And.intro T0 (And.intro G0 (And.intro n0 hC))))
  have hz := run_wzero w2
  rw [hC]
  clear R0 T0 G0 n0 hC
  obtain ⟨Z, hZ⟩ : ∃ Z, wcells (fun _ => nilSlice) = Z := ⟨_, rfl⟩
  rw [hZ] at hz
  have HZ := Lib.hid hZ
  clear hZ
  go_upto_region 5 with fail
  obtain ⟨wb, hwb⟩ : ∃ wb, w2.heap.size = wb := ⟨_, rfl⟩
  rw [hwb]
  have start : ShL w0 C wb 0 (w2.alloc (.cells Z 27)) := by
    obtain ⟨R0, T0, G0, n0, hC⟩ := H0.out
    refine ⟨g, CS.new, [], fun _ => [], fun _ => nilSlice, ?_, SI.start, CS.new_ok, CS.new_small, fun t => by simp⟩
    rw [← HZ.out]
    exact { rep := R0.alloc _, c := hC, old := (T0.mono fun _ _ q => q.elim).alloc _, tags := fun k hk => by rw [G0 k hk]
            blk := by rw [← hwb]; exact heap_alloc_new w2 _
            sl := fun t _ => SliceAt.nil _ _ _
            ap := fun s t _ _ _ b hb => by simp [nilSlice, Value.ownBlock] at hb
            tg := fun t _ b hb => by simp [nilSlice, Value.ownBlock] at hb
            tw := R0.fresh wb (by omega), nw := by rw [← hwb]; exact T0.size }
  have HS := Lib.hid start
  clear start hz H0 hwb
  generalize w2.alloc (.cells Z 27) = w3 at *
  go_upto_block 0 with fail
  go_cut [5] from 25 to 96 (fun z wx => ShL w0 C wb (evW l) wx)
  case first =>
    go_wp2_with fail
    go_loopg [5] (l.length) (fun gk iv wr => ∃ i : Nat, gk + i = l.length ∧ iv = .int .i64 i ∧ ShL w0 C wb (evW (l.take i)) wr)
    case atStart => exact ⟨0, rfl, rfl, HS.out⟩
    case round =>
      obtain ⟨i, hk, rfl, hD⟩ := hrel
      by_cases hlt : i < l.length
      · obtain ⟨p, hp⟩ : ∃ p, l[i]? = some p := ⟨_, List.getElem?_eq_getElem hlt⟩
        obtain ⟨g1, S, G, want, vs, sw, si, ok, sm, wl⟩ := hD
        obtain ⟨b, off, rfl, hc⟩ := (HI.out.1.old sw.old).resolve_left (fun e => by rw [e] at hlt; simp at hlt)
        obtain ⟨c0, c1, ba, bc, c2, -⟩ := hc i p hp
        obtain ⟨b', off', hb', hc'⟩ := HI.out.1.resolve_left (fun e => by rw [e] at hlt; simp at hlt)
        obtain ⟨rfl, rfl⟩ : b = b' ∧ off = off' := by cases hb'; exact ⟨rfl, rfl⟩
        obtain ⟨-, -, ba', bc', c2', hcells⟩ := hc' i p hp
        obtain ⟨rfl, rfl⟩ : ba = ba' ∧ bc = bc' := by
          have hlb := World.block_lt_of_cell? w0 _ c2'
          have h5 : b < w0.heap.size := hlb
          rw [sw.old.cell (p := ⟨b, off + i * 3 + 2, none⟩) (fun hh => by have h6 : w0.heap.size ≤ b := hh; omega) hlb, c2'] at c2
          injection c2 with c2
          injection c2 with h1 h2 h3
          exact ⟨h1.symm, h3.symm⟩
        have hwp := HI.out.2.1 p (List.mem_of_getElem? hp)
        have hbp := evW_mem (List.mem_of_getElem? hp)
        have hN : evW (l.take i) ≤ 3000 := evW_small HI.out.2.2
        obtain ⟨N, hNe⟩ : ∃ N, evW (l.take i) = N := ⟨_, rfl⟩
        have hNn : evW (l.take (i + 1)) = N + 1 + p.b.length := by rw [evW_succ hp]; omega
        rw [hNe] at sm wl hN
        have hbl : p.b.length ≤ 3000 := by have := HI.out.2.2; omega
        obtain ⟨ev, hev⟩ : ∃ o : Obj, Obj.cells #[.int .i64 p.d, .int .i64 p.t, .slice ba p.b.length bc] 29 = o := ⟨_, rfl⟩
        have hx := heap_alloc_new wr ev
        obtain ⟨bx, hbx⟩ : ∃ bx, wr.heap.size = bx := ⟨_, rfl⟩
        have sw4 := sw.alloc ev
        have hg0 : (g1.ρ bx).1 = 0 := sw.rep.fresh bx (by omega)
        have hbx0 : w0.heap.size ≤ bx := by rw [← hbx]; exact sw.old.size
        have i1 := BIn.of_cells hcells sw4.old sw4.tags
        have HNN := Lib.hid hNn
        have HBX := Lib.hid (And.intro hbx hev)
        have HCL := Lib.hid hcells
        clear hbx hNe hNn hbp hc hb' hc' c2' hcells sw
        have hi0 : (0 : Int) ≤ (i : Int) := by omega
        have hi1 : (i : Int) < (l.length : Int) := by omega
        obtain ⟨dd, tt, bl⟩ := p
        simp only at c0 c1 c2 hbl hev hx HNN HCL hwp i1
        rw [hev] at HBX
        have hx2 : EvB (wr.alloc ev) bx dd tt ba bl.length bc := ⟨by rw [← hev] at hx ⊢; rw [← HBX.out.1]; exact hx⟩
        have HB := Lib.hid (And.intro sw4 (And.intro si (And.intro ok (And.intro sm (And.intro wl (And.intro i1 (And.intro hg0 (And.intro hwp (And.intro hbx0 hx2)))))))))
        clear sw4 si ok sm wl i1 hg0 hwp hbx0 hx2 hx
        generalize hG : gk = GK at *
        clear hG
        go_upto_region 9 with fail
        rw [HBX.out.1]
        try rw [hev]
        obtain ⟨w4, hw4⟩ : ∃ w4, wr.alloc ev = w4 := ⟨_, rfl⟩
        rw [hw4] at HB ⊢
        obtain ⟨k0, k1, k2⟩ := HB.out.2.2.2.2.2.2.2.2.2.cells
        clear hw4 c0 c1 c2 hev HBX
        by_cases hr : inR tt
        · obtain ⟨k, rfl⟩ := Int.eq_ofNat_of_zero_le (by have := hr.1; omega : 0 ≤ tt)
          have hk1 : 1 ≤ k := by have := hr.1; omega
          have hk2 : k ≤ 99 := by have := hr.2; omega
          have z1 : ¬ (k : Int) < 1 := by omega
          have z2 : ¬ (99 : Int) < (k : Int) := by omega
          have z3 : (0 : Int) ≤ (k : Int) := by omega
          have z4 : (k : Int) < 100 := by omega
          clear hr
          go_upto_block 2 with fail
          go_cut [7, 8] from 43 to 60 (fun z7 z8 wx => wx = w4 ∧ ∀ x ∈ bl, ¬ (48 ≤ x.toNat ∧ x.toNat ≤ 58))
          case first =>
            go_wp2_with fail
            go_loopg [7] (bl.length) (fun gk iv wx => ∃ j : Nat, gk + j = bl.length ∧ iv = .int .i64 j ∧ wx = w4 ∧ ∀ q y, q < j → bl[q]? = some y → ¬ (48 ≤ y.toNat ∧ y.toNat ≤ 58))
            case atStart => exact ⟨0, rfl, rfl, rfl, fun q y hq => absurd hq (by omega)⟩
            case round =>
              obtain ⟨j, hj, rfl, hwx, hno⟩ := hrel
              rw [hwx]
              have HNO := Lib.hid hno
              clear hno hwx
              by_cases hjl : j < bl.length
              · obtain ⟨bb, bo, rfl, -, -, hcell⟩ := HB.out.2.2.2.2.2.1.resolve_left (fun e => by rw [e] at hjl; simp at hjl)
                have hcj := hcell j hjl
                have hy : bl[j]? = some bl[j] := List.getElem?_eq_getElem hjl
                generalize bl[j] = y at *
                have hy255 := y.toNat_lt
                obtain ⟨m, hm⟩ : ∃ m, y.toNat = m := ⟨_, rfl⟩
                rw [hm] at hcj hy255
                have HY := Lib.hid (And.intro hy hm)
                have y0 : (0 : Int) ≤ (j : Int) := by omega
                have y1 : (j : Int) < (bl.length : Int) := by omega
                clear hcell hy hm
                by_cases h48 : 48 ≤ m
                · have p1 : (48 : Int) ≤ (m : Int) := by omega
                  by_cases h58 : m ≤ 58
                  · have p2 : (m : Int) ≤ 58 := by omega
                    have HO := Lib.hid HB.out.1.old
                    clear h48 h58
                    go_wp2_with fail
                    go_ret
                    exact ⟨rfl, HO.out⟩
                  · have p2 : ¬ (m : Int) ≤ 58 := by omega
                    have HM := Lib.hid h58
                    clear h48 h58
                    go_wp2_with fail
                    go_roundg (gk - 1)
                    case measure => omega
                    case rel =>
                      refine ⟨j + 1, by omega, by go_num, rfl, fun q y' hq hy' => ?_⟩
                      rcases Nat.lt_or_ge q j with c | c
                      · exact HNO.out q y' c hy'
                      · obtain rfl : q = j := by omega
                        rw [HY.out.1] at hy'
                        cases hy'
                        rw [HY.out.2]
                        have := HM.out
                        omega
                · have p1 : ¬ (48 : Int) ≤ (m : Int) := by omega
                  have HM := Lib.hid h48
                  clear h48
                  go_wp2_with fail
                  go_roundg (gk - 1)
                  case measure => omega
                  case rel =>
                    refine ⟨j + 1, by omega, by go_num, rfl, fun q y' hq hy' => ?_⟩
                    rcases Nat.lt_or_ge q j with c | c
                    · exact HNO.out q y' c hy'
                    · obtain rfl : q = j := by omega
                      rw [HY.out.1] at hy'
                      cases hy'
                      rw [HY.out.2]
                      have := HM.out
                      omega
              · have hjn : j = bl.length := by omega
                have HF := Lib.hid (show ∀ x ∈ bl, ¬ (48 ≤ x.toNat ∧ x.toNat ≤ 58) from fun x hx => by
                  obtain ⟨q, hq, rfl⟩ := List.mem_iff_getElem.1 hx
                  exact HNO.out q _ (by omega) (List.getElem?_eq_getElem hq))
                go_wp2_with fail
                go_meet
                case rel => exact ⟨rfl, HF.out⟩
          case rest =>
            obtain ⟨hw, hcl⟩ := hcut
            rw [hw]
            clear hw
            have HT := Lib.hid (write_calls (g := g1) k ba bc bl HB.out.1.c HB.out.1.rep HB.out.2.2.1 HB.out.2.2.2.1 (by omega) (by omega) HB.out.2.2.2.2.2.1 hk1 hk2)
            have HCLN := Lib.hid hcl
            clear hcl
            go_wp2_with fail
            refine HT.out.mono ?_
            rintro e5 w5 ⟨rfl, g5, r5, s5⟩
            have sw5 := HB.out.1.console r5 s5
            have bx5 : EvB w5 bx dd k ba bl.length bc := ⟨(s5.turn.block bx (heap_lt HB.out.2.2.2.2.2.2.2.2.2.b) (fun q => q HB.out.2.2.2.2.2.2.1)).trans HB.out.2.2.2.2.2.2.2.2.2.b⟩
            obtain ⟨G5, si5⟩ := SI.write hk1 hk2 bl HB.out.2.1 HB.out.2.2.1 HCLN.out
            have ok5 := CS.write_ok HB.out.2.2.1 k hk1 hk2 bl
            have sm5 := CS.write_small (m := 250 * (N + 1 + bl.length)) HB.out.2.2.2.1 HB.out.2.2.1 k hk1 hk2 bl (by omega)
            obtain ⟨S5, hS5⟩ : ∃ S5, S.write k bl = S5 := ⟨_, rfl⟩
            rw [hS5] at sw5 si5 ok5 sm5
            have H5 := Lib.hid (And.intro si5 (And.intro ok5 sm5))
            have HSW := Lib.hid (And.intro sw5 bx5)
            clear sw5 bx5 si5 ok5 sm5 hS5 r5 s5 k0 k1 k2 HT
            go_wp2_with fail
            go_loopg [9] (bl.length) (fun gk iv wx => ∃ j : Nat, gk + j = bl.length ∧ iv = .int .i64 j ∧ (∃ vs, SW w0 g5 C wb S5 vs (fun t => if t = k then want t ++ adds (bl.take j) else want t) wx) ∧ EvB wx bx dd k ba bl.length bc)
            case atStart =>
              refine ⟨0, rfl, rfl, ⟨vs, ?_⟩, HSW.out.2⟩
              have e : (fun t => if t = k then want t ++ adds (bl.take 0) else want t) = want := funext fun t => by simp [adds]
              rw [e]; exact HSW.out.1
            case round =>
              obtain ⟨j, hj, rfl, ⟨vs5, swj⟩, bxj⟩ := hrel
              obtain ⟨k0, k1, k2⟩ := bxj.cells
              by_cases hjl : j < bl.length
              · have i5 := BIn.of_cells HCL.out swj.old swj.tags
                obtain ⟨bq, bo, rfl, -, -, hcell⟩ := i5.resolve_left (fun e => by rw [e] at hjl; simp at hjl)
                have hcj := hcell j hjl
                have hy : bl[j]? = some bl[j] := List.getElem?_eq_getElem hjl
                generalize bl[j] = y at *
                have hy255 := y.toNat_lt
                obtain ⟨m, hm⟩ : ∃ m, y.toNat = m := ⟨_, rfl⟩
                rw [hm] at hcj hy255
                have HY := Lib.hid (And.intro hy (And.intro hm (And.intro swj bxj)))
                have y0 : (0 : Int) ≤ (j : Int) := by omega
                have y1 : (j : Int) < (bl.length : Int) := by omega
                clear hcell hy hm i5 swj bxj
                by_cases h10 : m = 10
                · have p1 : ((m : Int) != 10) = false := by simp [h10]
                  have HM := Lib.hid h10
                  clear h10
                  go_wp2_with fail
                  go_roundg (gk - 1)
                  case measure => omega
                  case rel =>
                    refine ⟨j + 1, by omega, by go_num, ⟨vs5, ?_⟩, HY.out.2.2.2⟩
                    rw [want_same HY.out.1 (HY.out.2.1.trans HM.out)]
                    exact HY.out.2.2.1
                · have p1 : ((m : Int) != 10) = true := by simp; omega
                  have HM := Lib.hid h10
                  clear h10
                  go_upto_region 22 with fail
                  go_cut [86] from 81 to 86 (fun v wx => v = .bool (decide (m < 32 ∨ 126 < m)) ∧ wx = wr)
                  case first =>
                    by_cases h32 : m < 32
                    · have p2 : (m : Int) < 32 := by omega
                      have HD := Lib.hid (decide_eq_true (show m < 32 ∨ 126 < m from .inl h32))
                      clear h32
                      go_wp2_with fail
                      go_meet
                      case rel => exact ⟨by rw [HD.out], rfl⟩
                    · have p2 : ¬ (m : Int) < 32 := by omega
                      by_cases h126 : 126 < m
                      · have p3 : (126 : Int) < (m : Int) := by omega
                        have HD := Lib.hid (decide_eq_true (show m < 32 ∨ 126 < m from .inr h126))
                        clear h32 h126
                        go_wp2_with fail
                        go_meet
                        case rel => exact ⟨by rw [HD.out], rfl⟩
                      · have p3 : ¬ (126 : Int) < (m : Int) := by omega
                        have HD := Lib.hid (decide_eq_false (show ¬ (m < 32 ∨ 126 < m) by omega))
                        clear h32 h126
                        go_wp2_with fail
                        go_meet
                        case rel => exact ⟨by rw [HD.out], rfl⟩
                  case rest =>
                    obtain ⟨rfl, hw⟩ := hcut
                    rw [hw]
                    clear hw
                    obtain ⟨z, hz⟩ : ∃ z, (seen y).toNat = z := ⟨_, rfl⟩
                    have HZZ := Lib.hid hz
                    obtain ⟨bb, hbb⟩ : ∃ bb, decide (m < 32 ∨ 126 < m) = bb := ⟨_, rfl⟩
                    rw [hbb]
                    have HBB := Lib.hid hbb
                    clear hbb hz
                    go_upto_if 86 with fail
                    go_cut [10] from 86 to 86 (fun v wx => v = .int .u8 (z : Int) ∧ wx = wr)
                    case first =>
                      cases bb
                      · have hzm : z = m := by
                          have := of_decide_eq_false HBB.out
                          rw [← HZZ.out, ← HY.out.2.1]
                          unfold seen
                          rw [if_neg (by rw [HY.out.2.1]; exact this)]
                        have HF := Lib.hid hzm
                        clear hzm
                        go_wp2_with fail
                        go_meet
                        case rel => exact ⟨by rw [HF.out], rfl⟩
                      · have hzm : z = 63 := by
                          have := of_decide_eq_true HBB.out
                          rw [← HZZ.out]
                          unfold seen
                          rw [if_pos (by rw [HY.out.2.1]; exact this)]; rfl
                        have HF := Lib.hid hzm
                        clear hzm
                        go_wp2_with fail
                        go_meet
                        case rel => exact ⟨by rw [HF.out]; rfl, rfl⟩
                    case rest =>
                      obtain ⟨rfl, hw⟩ := hcut
                      rw [hw]
                      clear hw
                      have hwl : (if k = k then want k ++ adds (bl.take j) else want k).length ≤ 1000000 := by
                        rw [if_pos rfl, List.length_append]
                        have h1 := HB.out.2.2.2.2.1 k
                        have h2 := adds_len (bl.take j)
                        rw [List.length_take] at h2
                        omega
                      obtain ⟨a0, n0, k0', pa, pn, pc, w6, hv0, happ, hb6, hT6, vs6, sw6⟩ := HY.out.2.2.1.put k (by omega) z (seen y) HZZ.out hwl
                      have ne := HY.out.2.2.1.bx_ne HY.out.2.2.2
                      have cw := cell_at HY.out.2.2.1.drew.blk (wcells_get vs5 k (by omega))
                      have cw1 := cell_at (HY.out.2.2.1.alloc (.cells #[.int .u8 (z : Int)] 5)).drew.blk (wcells_get vs5 k (by omega))
                      have cw6 := cell_at hb6 (wcells_get vs5 k (by omega))
                      have fw6 : w6.frozen? ⟨wb, k, none⟩ = false := frozen_at hb6
                      rw [hv0] at cw cw1 cw6
                      have bxA : EvB (wr.alloc (.cells #[.int .u8 (z : Int)] 5)).drew bx dd k (some ⟨bq, bo, none⟩) bl.length bc := ⟨(heap_alloc_lt _ _ _ (heap_lt HY.out.2.2.2.b)).trans HY.out.2.2.2.b⟩
                      have bx6 : EvB w6 bx dd k (some ⟨bq, bo, none⟩) bl.length bc := ⟨(hT6.block bx (heap_lt bxA.b) (ne.2 k (by omega))).trans bxA.b⟩
                      have bx7 : EvB (w6.setCell ⟨wb, k, none⟩ (.slice pa pn pc)) bx dd k (some ⟨bq, bo, none⟩) bl.length bc := ⟨(heap_setCell_ne _ ne.1).trans bx6.b⟩
                      have xA := bxA.cells.2.1
                      have x6 := bx6.cells.2.1
                      have HF := Lib.hid (And.intro sw6 bx7)
                      clear hwl hv0 hb6 hT6 sw6 ne bxA bx6 bx7
                      go_upto_region 24 with fail
                      refine wp_region_plan (aF := ?aFs) [7, 8, 10] [(0, 0), (0, 1), (0, 2), (1, 0), (1, 1), (1, 2), (2, 0), (2, 1), (2, 2), (3, 0), (3, 1), (4, 0), (4, 1), (5, 0), (5, 1), (6, 0), (7, 0), (8, 1), (9, 2), (10, 2)] [wr.drew, (wr.alloc (.cells #[.int .u8 (z : Int)] 5)).drew, w6, w6.setCell ⟨wb, k, none⟩ (.slice pa pn pc)] [?s0, ?s1, ?s2, ?s3, ?s4, ?s5, ?s6, ?s7, .slice pa pn pc, ?s9, undef] (by kernel_rfl) (by kernel_rfl) ?hFs rfl rfl rfl ?hobs ?hends
                      case hFs => simp only [putAll, Act.put]; go_simp; rfl
                      case hobs =>
                        repeat' (first
                          | exact obls_nil
                          | (refine obls_cons rfl rfl rfl ?_ ?_)
                          | (apply Runs.skip rfl rfl; (focus (go_simp; try exact rfl)); exact rfl)
                          | (apply Runs.value rfl; (focus (go_simp; try exact rfl)); exact rfl))
                        exact Runs.append rfl (.tmp 92) (.tmp 94) 26 26 rfl _ _ _ rfl rfl happ rfl
                      clear cw cw1 cw6 fw6 xA x6 happ
                      go_wp2_with fail
                      go_roundg (gk - 1)
                      case measure => omega
                      case rel =>
                        refine ⟨j + 1, by omega, by go_num, ⟨vs6, ?_⟩, HF.out.2⟩
                        rw [want_succ HY.out.1 (by rw [HY.out.2.1]; exact HM.out)]
                        exact HF.out.1
              · have hjn : j = bl.length := by omega
                subst hjn
                have HF := Lib.hid (show ShL w0 C wb (N + 1 + bl.length) wr from ⟨g5, S5, G5, _, vs5, swj, by rw [List.take_length]; exact H5.out.1, H5.out.2.1, H5.out.2.2, fun t => by
                  have h1 := HB.out.2.2.2.2.1 t
                  have h2 := adds_len (bl.take bl.length)
                  rw [List.take_length] at h2
                  show (if t = k then want t ++ adds (bl.take bl.length) else want t).length ≤ _
                  split
                  · rw [List.length_append, List.take_length]; omega
                  · omega⟩)
                clear swj bxj
                go_wp2_with fail
                go_roundg (GK - 1)
                case measure => omega
                case rel => exact ⟨i + 1, by omega, by go_num, by rw [HNN.out]; exact HF.out⟩
        · have hr' : tt < 1 ∨ 99 < tt := by unfold inR at hr; omega
          have HF := Lib.hid (show ShL w0 C wb (N + 1 + bl.length) w4 from ShL.mono ⟨g1, S, G, want, vs, HB.out.1, HB.out.2.1, HB.out.2.2.1, HB.out.2.2.2.1, HB.out.2.2.2.2.1⟩ (by omega))
          clear hr
          by_cases h1 : tt < 1
          · clear hr'
            go_wp2_with fail
            go_roundg (GK - 1)
            case measure => omega
            case rel => exact ⟨i + 1, by omega, by go_num, by rw [HNN.out]; exact HF.out⟩
          · have h2 : 99 < tt := by omega
            clear hr'
            go_wp2_with fail
            go_roundg (GK - 1)
            case measure => omega
            case rel => exact ⟨i + 1, by omega, by go_num, by rw [HNN.out]; exact HF.out⟩
      · have hi : i = l.length := by omega
        subst hi
        rw [List.take_length] at hD
        have HF := Lib.hid hD
        clear hD
        go_wp2_with fail
        go_meet
        case rel => exact HF.out
  case rest =>
    have HF0 := Lib.hid (FlI.start hcut HI.out.2.2)
    clear hcut
    go_wp2_with fail
    go_loopg [11] (99) (fun gk tv wr => ∃ t : Nat, gk + t = 100 ∧ tv = .int .i64 t ∧ 1 ≤ t ∧ FlI w0 C wb t wr)
    case atStart => exact ⟨1, rfl, rfl, Nat.le_refl _, HF0.out⟩
    case round =>
      obtain ⟨t, ht, rfl, ht1, hF⟩ := hrel
      by_cases htl : t ≤ 99
      · obtain ⟨g1, S, G, want, vs, sw, si, ok, sm, wl, em⟩ := hF
        have p1 : (t : Int) ≤ 99 := by omega
        have HT := Lib.hid (flush_calls (g := g1) t sw.c sw.rep ok (Nat.le_trans sm.screen (by omega)) ht1 htl)
        have H := Lib.hid (And.intro sw (And.intro si (And.intro ok (And.intro sm (And.intro wl em)))))
        clear sw si ok sm wl em
        go_wp2_with fail
        refine HT.out.mono ?_
        rintro e5 w5 ⟨rfl, g5, r5, s5⟩
        obtain ⟨sw, si, ok, sm, wl, em⟩ := H.out
        obtain ⟨⟨G5, si5⟩, e5, o5⟩ := si.flush ok t ht1 htl
        have HN := Lib.hid (show FlI w0 C wb (t + 1) w5 from ⟨g5, _, G5, want, vs, sw.console r5 s5, si5, CS.flush_ok ok t ht1 htl, CS.flush_small sm ok t (by omega), wl, fun q h1 h2 => by
          rcases Nat.lt_or_ge q t with c | c
          · exact o5 q (em q h1 c)
          · obtain rfl : q = t := by omega
            exact e5⟩)
        clear sw si ok sm wl em si5 e5 o5 r5 s5
        go_wp2_with fail
        go_roundg (gk - 1)
        case measure => omega
        case rel => exact ⟨t + 1, by omega, by go_num, by omega, HN.out⟩
      · have p1 : ¬ (t : Int) ≤ 99 := by omega
        obtain rfl : t = 100 := by omega
        obtain ⟨g1, S, G, want, vs, sw, si, ok, sm, wl, em⟩ := hF
        have hsc : S.screen.length ≤ 1000000 := Nat.le_trans sm.screen (by omega)
        have hw : ∀ t, 1 ≤ t → t ≤ 99 → (bodies t G).flatten = want t := fun t h1 h2 => by
          have := si.all t
          rw [em t h1 (by omega), List.append_nil] at this
          exact this
        have HT := Lib.hid (screen_calls (g := g1) sw.c sw.rep (by omega))
        have H := Lib.hid (And.intro sw (And.intro si (And.intro hsc (And.intro wl hw))))
        clear sw si ok sm wl em hw
        rw [show ((100 : Nat) : Int) = 100 from rfl] at p1 ⊢
        go_wp2_with fail
        refine HT.out.mono ?_
        rintro e5 w5 ⟨v5, rfl, o5, r5, s5, n5⟩
        have sw5 := H.out.1.console r5 s5
        obtain ⟨sa, sn, sc, rfl, -⟩ := o5.form
        obtain ⟨rfl, hin5⟩ := BCells.of_slice o5
        have H5 := Lib.hid (And.intro sw5 hin5)
        clear sw5 o5 r5 s5 n5 hin5
        go_wp2_with fail
        go_loopg [13] (99) (fun gk tv wr => ∃ t : Nat, gk + t = 100 ∧ tv = .int .i64 t ∧ 1 ≤ t ∧ Old w5 wr)
        case atStart => exact ⟨1, rfl, rfl, Nat.le_refl _, Turn.refl _ _⟩
        case round =>
          obtain ⟨t, ht, rfl, ht1, hO⟩ := hrel
          have HO := Lib.hid hO
          clear hO
          by_cases htl : t ≤ 99
          · have p2 : (t : Int) ≤ 99 := by omega
            generalize hG : gk = GK at *
            clear hG
            obtain ⟨sw, si, hsc, wl, hw⟩ := H.out
            have hin6 := H5.out.2.old HO.out
            have hgd : Gd t ⟨1, [], []⟩ S.screen := by rw [si.screen]; exact shown_gd t G 1 [] si.lines
            have HT2 := Lib.hid (shown_calls S.screen sa sc t hin6 (by omega) hgd)
            have hout : ((⟨1, [], []⟩ : Sh).run t S.screen).out = bodies t G := by
              rw [si.screen, shown_all t G 1 [] si.lines, bodies_filter]
              rfl
            have hlen6 : (bodies t G).length ≤ 1000000 := by
              rw [← hout]
              have := Sh.out_len t S.screen ⟨1, [], []⟩
              simp at this
              omega
            have h80 : ∀ x ∈ bodies t G, x.length ≤ 80 := fun x hx => by
              unfold bodies at hx
              obtain ⟨y, hy, rfl⟩ := List.mem_map.1 hx
              exact (si.lines y (List.mem_filter.1 hy).1).2.2.1
            have hwt := hw t ht1 htl
            obtain ⟨L, hL⟩ : ∃ L, bodies t G = L := ⟨_, rfl⟩
            rw [hL] at hout hlen6 h80 hwt
            have hfl : L.flatten.length ≤ 3000 := by rw [hwt]; exact wl t
            have HW := Lib.hid (And.intro hwt (And.intro h80 (And.intro hout hfl)))
            clear sw si hsc wl hw hin6 hgd hL hout h80 hwt hfl
            go_wp2_with fail
            refine HT2.out.mono ?_
            rintro e6 w6 ⟨v6, rfl, B6⟩
            rw [HW.out.2.2.1] at B6
            have o6 : Old w5 w6 := HO.out.trans (B6.old.mono fun k _ hk => Nat.le_trans HO.out.size hk)
            obtain ⟨va, vn, vc, rfl, -⟩ := B6.at_.form
            obtain ⟨rfl, hsc6⟩ := SCells.of_slice B6.at_
            have H6 := Lib.hid (And.intro hsc6 o6)
            clear B6 o6 hsc6 HT2
            go_wp2_with fail
            go_loopg [15, 16] (L.length) (fun gk gv iv wx => ∃ j : Nat, gk + j = L.length ∧ iv = .int .i64 j ∧ Built w6 5 1 gv (bcells (L.take j).flatten) wx)
            case atStart => exact ⟨0, rfl, rfl, Built.nil _ _ _⟩
            case round =>
              obtain ⟨j, hj, rfl, hB⟩ := hrel
              by_cases hjl : j < L.length
              · obtain ⟨q, qo, rfl, hcell⟩ := H6.out.1.resolve_left (fun e => by rw [e] at hjl; simp at hjl)
                have hcj := hcell j hjl
                have hq := World.block_lt_of_cell? w6 _ hcj
                have hcx : wr.cell? ⟨q, qo + j, none⟩ = some (.string ⟨L[j].toArray⟩) := by
                  rw [hB.old.cell (p := ⟨q, qo + j, none⟩) (fun hh => by have h5 : q < w6.heap.size := hq; have h6 : w6.heap.size ≤ q := hh; omega) hq]; exact hcj
                have hx : L[j]? = some L[j] := List.getElem?_eq_getElem hjl
                have hx80 := HW.out.2.1 L[j] (List.getElem_mem hjl)
                generalize L[j] = x at *
                have htk : (L.take (j + 1)).flatten = (L.take j).flatten ++ x := by rw [List.take_add_one, hx, List.flatten_append]; simp
                have hfj : (L.take j).flatten.length ≤ 3000 := by
                  have h1 : L.flatten = (L.take j).flatten ++ (L.drop j).flatten := by rw [← List.flatten_append, List.take_append_drop]
                  have h2 := HW.out.2.2.2
                  rw [h1, List.length_append] at h2
                  omega
                obtain ⟨ga, gn, gc, rfl, -⟩ := hB.at_.form
                have HB6 := Lib.hid (And.intro hB (And.intro htk hfj))
                have j0 : (0 : Int) ≤ (j : Int) := by omega
                have j1 : (j : Int) < (L.length : Int) := by omega
                have p3 : ¬ (80 : Int) < (x.length : Int) := by omega
                have p4 : ¬ 80 < x.length := by omega
                clear hcell hcj hq hx hB htk hfj
                go_wp2_with (
                  at_builtin
                  refine wpList_append _ rfl _ _ 26 9 rfl 5 1 1 (.int .u8 0) Tryd.underlying26 (.inl Tryd.underlying9) elemU8 (.slice ga gn gc) _ rfl HB6.out.1.at_ (.string ⟨x.toArray⟩) _ _ rfl (Src.str _ rfl) (by rw [strCells_str]; exact bcells_one _) (by rw [strCells_str, bcells_length, bcells_length]; have := HB6.out.2.2; omega) (by rw [strCells_str, bcells_length, bcells_length]; have := HB6.out.2.2; omega) ?_
                  intro v7 w7 hv7 ht7 hw7 hn7
                  rw [strCells_str, ← bcells_append, ← HB6.out.2.1] at hv7
                  have hG7 := HB6.out.1.grown ht7 hv7 hw7
                  have HG7 := Lib.hid hG7
                  obtain ⟨pa, pn, pc, rfl, -⟩ := hv7.form
                  clear hv7 ht7 hw7 hn7 hG7)
                go_roundg (gk - 1)
                case measure => omega
                case rel => exact ⟨j + 1, by omega, by go_num, HG7.out⟩
              · have hjn : j = L.length := by omega
                subst hjn
                rw [List.take_length, HW.out.1] at hB
                have hwr : Old w5 wr := H6.out.2.trans (hB.old.mono fun k _ hk => Nat.le_trans H6.out.2.size hk)
                have sl := H5.out.1.sl t (by omega)
                have sl2 : SliceAt wr 5 1 (vs t) (bcells (want t)) := sl.turn hwr (fun b hb hh => by have := sl.lt b hb; have h6 : w5.heap.size ≤ b := hh; omega)
                have cw := cell_at H5.out.1.blk (wcells_get vs t (by omega))
                have cw2 : wr.cell? ⟨wb, t, none⟩ = some (vs t) := by
                  have hb := heap_lt H5.out.1.blk
                  rw [hwr.cell (p := ⟨wb, t, none⟩) (fun hh => by have h6 : w5.heap.size ≤ wb := hh; omega) hb]; exact cw
                obtain ⟨ta, tn, tc, hvt, -⟩ := sl2.form
                rw [hvt] at sl2 cw2
                obtain ⟨rfl, c2⟩ := BCells.of_slice sl2
                obtain ⟨ga, gn, gc, rfl, -⟩ := hB.at_.form
                obtain ⟨rfl, c1⟩ := BCells.of_slice hB.at_
                have t0 : (0 : Int) ≤ (t : Int) := by omega
                have t1 : (t : Int) < 100 := by omega
                have hwlen : (want t).length ≤ 3000 := H.out.2.2.2.1 t
                have HE := Lib.hid (eqBytes_calls wr ga ta gc tc (want t) c1 c2 (by omega))
                have HW5 := Lib.hid hwr
                clear hB hwr sl sl2 cw hvt c2 c1
                go_wp2_with fail
                refine HE.out.mono ?_
                rintro e8 w8 ⟨rfl, t8⟩
                have HO8 := Lib.hid (show Old w5 w8 from HW5.out.trans (t8.mono fun _ _ q => q.elim))
                clear t8 cw2
                go_wp2_with fail
                go_roundg (GK - 1)
                case measure => omega
                case rel => exact ⟨t + 1, by omega, by go_num, by omega, HO8.out⟩
          · have p2 : ¬ (t : Int) ≤ 99 := by omega
            obtain rfl : t = 100 := by omega
            rw [show ((100 : Nat) : Int) = 100 from rfl] at p2 ⊢
            go_wp2_with fail
            refine (awake_calls wr).mono ?_
            rintro e7 w7 ⟨rfl, t7⟩
            have o6 : Old w0 wr := H5.out.1.old.trans (HO.out.mono fun k _ hk => Nat.le_trans H5.out.1.old.size hk)
            have o7 : Old w0 w7 := o6.trans (t7.mono fun k _ hk => Nat.le_trans o6.size hk)
            have H7 := Lib.hid o7
            clear t7 o6 o7
            go_wp2_with fail
            go_ret
            exact ⟨rfl, H7.out⟩
end Go.Con
