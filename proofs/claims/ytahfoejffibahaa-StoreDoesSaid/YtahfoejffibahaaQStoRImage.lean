/-
  The reference's Image, walked.
-/
import Derived.Test.YtahfoejffibahaaQStoRFree
set_option linter.unusedVariables false

namespace Go.Sto
open Go.Own Go.RowKit Go.Proofs

theorem flat_len (T : St) (h : ∀ b ∈ T, Good b) : (T.flatMap bim).length ≤ 16 * sz T := by
  induction T with
  | nil => simp [sz]
  | cons b T ih =>
    have h1 := ih fun c hc => h c (by simp [hc])
    have hb := h b (by simp)
    have h2 := hb.two
    have h3 : (bim b).length ≤ 16 * b.size := by
      unfold bim
      cases hu : b.used with
      | true =>
        have := hb.full hu
        simp only [if_true, List.length_append, enc8_length, flat8_length]
        omega
      | false => simp only [Bool.false_eq_true, if_false, List.length_append, enc8_length]; omega
    simp only [List.flatMap_cons, List.length_append, sz]
    omega

structure ImI (wB : World) (n0 nb : Nat) (wx : World) (v : Value) (X : List Int) : Prop where
  s : SliceAt wx 5 1 v (bcells X)
  t : Turn (fun k => n0 + 1 ≤ k ∧ k ≠ nb) wB wx
  o : ∀ k, v.ownBlock = some k → n0 + 1 ≤ k ∧ k ≠ nb
  z : nb < wB.heap.size

section
variable {wB wx w' w8 : World} {n0 nb : Nat} {v v' : Value} {X Y : List Int}
theorem ImI.below (h : ImI wB n0 nb wx v X) (hB : Below wx.heap.size wx w') : ImI wB n0 nb w' v X :=
  ⟨SliceAt.keep h.s fun k hk => hB.block k (SliceAt.lt h.s k hk), h.t.trans ⟨hB.os, hB.tape, hB.output, hB.size, fun k hk _ => hB.block k hk⟩, h.o, h.z⟩
theorem ImI.app (h : ImI wB n0 nb wx v X) (hs : SliceAt w' 5 1 v' (bcells X ++ bcells Y)) (t : Turn (fun k => v.ownBlock = some k) wx w') (o : v'.ownBlock = v.ownBlock ∨ v'.ownBlock = some wx.heap.size) (hn : n0 + 1 ≤ wB.heap.size) : ImI wB n0 nb w' v' (X ++ Y) := by
  have hz := h.t.size
  have hb := h.z
  refine ⟨by rw [bcells_append]; exact hs, h.t.trans (t.mono fun k _ e => h.o k e), fun k hk => ?_, h.z⟩
  rcases o with q | q
  · rw [q] at hk; exact h.o k hk
  · rw [q] at hk; cases hk; omega
end
theorem tk_len {l s z q : Nat} (h1 : l + 1 = s) (h2 : z = s) (h3 : q = z) : l ≤ q - 1 := by omega
theorem bcells_one' (l : List Int) : ∀ u ∈ bcells l, u.oneCell' = true := by
  intro u hu; simp only [bcells, List.mem_map] at hu; obtain ⟨x, -, rfl⟩ := hu; rfl
theorem eight_form {w : World} {v : Value} {x : Int} (h : SliceAt w 5 1 v (bcells (enc8 x))) : ∃ a c, v = .slice a 8 c := by
  obtain ⟨a, n, c, rfl, hl, -⟩ := h.form
  rw [bcells_length, enc8_length] at hl
  exact ⟨a, c, by rw [show n = 8 by omega]⟩

set_option maxRecDepth 100000 in
set_option maxHeartbeats 8000000 in
theorem rimage_calls {w : World} {v : Value} {L : List RN} {S : St} {n : Nat} (h : RC w v L S) (ok : Ok n S) :
    Calls Try.prog 62 #[.agg #[v]] w fun e w' => ∃ v', e = .returned v' ∧ SliceAt w' 5 1 v' (bcells (image n S)) ∧ Below w.heap.size w w' := by
  obtain ⟨a, cap, rfl, hn, hc, hcell⟩ := h.ref.form
  have hll : L.length ≤ 16000 := by rw [h.len]; exact ok.slen.1
  have H := Lib.hid (And.intro h (And.intro ok hcell))
  clear h ok hcell
  go_enter Try.func62, Try.ntmps62
  go_wp2
  obtain ⟨n0, hn0'⟩ : ∃ n0, w.heap.size = n0 := ⟨_, rfl⟩
  obtain ⟨w1, hw1⟩ : ∃ w1, w.alloc (.cells #[.slice a L.length cap] 59) = w1 := ⟨_, rfl⟩
  have hB1 : Below n0 w w1 := by rw [← hw1]; exact (Below.refl _ w).alloc (by omega) _
  have d0 : w1.cell? ⟨n0, 0, none⟩ = some (.slice a L.length cap) := by rw [← hw1, ← hn0']; exact cell_at (heap_alloc_new w _) rfl
  have hz1 : w1.heap.size = n0 + 1 := by rw [← hw1, ← hn0']; simp
  rw [hw1, hn0']
  have H1 := Lib.hid (And.intro hB1 (And.intro d0 (And.intro hz1 hn0')))
  clear hw1 hn0' hB1 d0 hz1
  go_loopg [3, 4, 5] (L.length) (fun k al ov i wx => k ≤ L.length ∧ i = .int .i64 ((L.length - k : Nat) : Int) ∧ al = .int .i64 (sz (S.take (L.length - k)) : Nat) ∧ SliceAt wx 5 1 ov (bcells ((S.take (L.length - k)).flatMap bim)) ∧ Below (n0 + 1) w1 wx ∧ ∀ k, ov.ownBlock = some k → n0 + 1 ≤ k)
  case atStart => exact ⟨Nat.le_refl _, by simp, by simp [sz], by simp [bcells]; exact SliceAt.nil _ _ _, Below.refl _ _, fun k hk => by simp [Value.ownBlock] at hk⟩
  case round =>
    obtain ⟨hk, rfl, rfl, hS, hB, hO⟩ := hrel
    obtain ⟨j, hj⟩ : ∃ j, L.length - gk = j := ⟨_, rfl⟩
    rw [hj] at hS ⊢
    have c0 : wr.cell? ⟨n0, 0, none⟩ = some (.slice a L.length cap) := (hB.cell (p := ⟨n0, 0, none⟩) (by show n0 < n0 + 1; omega)).trans H1.out.2.1
    obtain ⟨oa, on, oc, rfl, hol, -⟩ := SliceAt.form hS
    have hfl := flat_len (S.take j) fun b hb => H.out.2.1.good b (List.mem_of_mem_take hb)
    have hsj := sz_take_le S j
    have hs32 := H.out.2.1.slen.2.1
    obtain ⟨X, hX⟩ : ∃ X, (S.take j).flatMap bim = X := ⟨_, rfl⟩
    rw [hX] at hS hol hfl
    have hXl : X.length ≤ 512000 := by omega
    obtain ⟨al, hal⟩ : ∃ al, sz (S.take j) = al := ⟨_, rfl⟩
    rw [hal] at hsj ⊢
    have hz0 : n0 + 1 ≤ wr.heap.size := by have := hB.size; have := H1.out.2.2.1; omega
    by_cases hlt : j < L.length
    · obtain ⟨x, hx⟩ : ∃ x, L[j]? = some x := ⟨_, List.getElem?_eq_getElem hlt⟩
      obtain ⟨b, hb, hbk⟩ := H.out.1.get hx
      obtain ⟨bb, off, rfl, e0, e1⟩ := H.out.2.2 j x hx
      have hbn : bb < n0 := by have h : bb < w.heap.size := cell_lt e0; have := H1.out.2.2.2; omega
      have hB02 : Below n0 w wr := H1.out.1.trans (hB.mono (by omega))
      have e0 : wr.cell? ⟨bb, off + j * 2, none⟩ = some (.slice x.a x.n x.cap) := (hB02.cell (p := ⟨bb, off + j * 2, none⟩) hbn).trans e0
      have e1 : wr.cell? ⟨bb, off + j * 2 + 1, none⟩ = some (.bool x.u) := (hB02.cell (p := ⟨bb, off + j * 2 + 1, none⟩) hbn).trans e1
      have hg := H.out.2.1.good b (List.mem_of_getElem? hb)
      have hbs := H.out.2.1.slen.2.2 b (List.mem_of_getElem? hb)
      obtain ⟨z, hz⟩ : ∃ z, x.n = z := ⟨_, rfl⟩
      have hzb : z = b.size := by rw [← hz]; exact hbk.1
      have hsn : al + z ≤ 32000 := by
        have h1 := sz_take_le S (j + 1)
        rw [free_take hb, sz_append] at h1
        simp only [sz] at h1
        omega
      obtain ⟨ws, hws, hwc, hwd⟩ := hbk.2.2
      have hwc' : SliceAt w 3 1 (.slice x.a z x.cap) (icells ws) := by rw [← hz]; exact hwc
      have hwx : SliceAt wr 3 1 (.slice x.a z x.cap) (icells ws) := SliceAt.keep hwc' fun k hk => hB02.block k (by have := SliceAt.lt hwc' k hk; have := H1.out.2.2.2; omega)
      have hwlt : ∀ k, (Value.slice x.a z x.cap).ownBlock = some k → k < n0 := fun k hk => by have := SliceAt.lt hwc' k hk; have := H1.out.2.2.2; omega
      rw [hz] at e0
      have HXX := Lib.hid (And.intro hj (And.intro hb (And.intro hX (And.intro hal (And.intro hzb (And.intro hg (And.intro hbk.2.1 (And.intro hws (And.intro hwx (And.intro hwlt (And.intro hwd (And.intro hS (And.intro hB (And.intro hO hz0))))))))))))))
      obtain ⟨w3, w4⟩ := wrap_sum' al z (by omega)
      have hz32 : z ≤ 32000 ∧ 1 ≤ z := by omega
      have hon : on ≤ 512000 := by rw [bcells_length] at hol; omega
      clear hj hb hX hal hzb hg hws hwx hwlt hwd hS hB hO hz0 hwc hwc' hbk hx hz hbs hsn hol hfl hsj hs32
      go_upto_region 8 with fail
      obtain ⟨nb, hnb⟩ : ∃ nb, wr.heap.size = nb := ⟨_, rfl⟩
      obtain ⟨wB, hwB⟩ : ∃ wB, wr.alloc (.cells #[.slice x.a z x.cap, .bool x.u] 108) = wB := ⟨_, rfl⟩
      have tB : Turn (fun _ => False) wr wB := by rw [← hwB]; exact (Turn.refl (fun _ => False) wr).alloc _
      have hzB : wB.heap.size = nb + 1 := by rw [← hwB, ← hnb]; simp
      have m0 : wB.cell? ⟨nb, 0, none⟩ = some (.slice x.a z x.cap) := by rw [← hwB, ← hnb]; exact cell_at (heap_alloc_new wr _) rfl
      have m1 : wB.cell? ⟨nb, 1, none⟩ = some (.bool x.u) := by rw [← hwB, ← hnb]; exact cell_at (heap_alloc_new wr _) rfl
      rw [hwB, hnb]
      obtain ⟨hj, hb, hX, hal, hzb, hg, hxu, hws, hwx, hwlt, hwd, hS, hB, hO, hz0⟩ := HXX.out
      have I0 : ImI wB n0 nb wB (.slice oa on oc) X := ⟨SliceAt.turn hS tB fun _ _ => id, Turn.refl _ _, fun k hk => ⟨hO k hk, by have := SliceAt.lt hS k hk; omega⟩, by omega⟩
      have HZB := Lib.hid (show n0 + 1 ≤ wB.heap.size by omega)
      have HBB := Lib.hid (And.intro tB (And.intro hnb (And.intro hzB (And.intro m0 m1))))
      clear hwB tB hnb hzB hj hb hX hal hzb hg hxu hws hwx hwlt hwd hS hB hO hz0 m1
      go_wp2_with fail
      refine (reight_calls (z : Int) wB).mono ?_
      rintro e w8A ⟨v8A, rfl, s8A, b8A, -⟩
      obtain ⟨a8A, c8A, rfl⟩ := eight_form s8A
      have h8A := I0.below b8A
      have HSA := Lib.hid (And.intro h8A.s s8A)
      have HHA := Lib.hid h8A
      clear h8A s8A b8A
      go_wp2_with (at_builtin; refine wpList_append _ rfl _ _ 53 53 rfl 5 1 1 (.int .u8 0) Try.underlying53 (.inr ⟨_, Try.underlying53⟩) elemU8 (.slice oa on oc) _ rfl HSA.out.1 _ 8 _ rfl (Src.of_slice HSA.out.2) (bcells_one' _) (by rw [bcells_length, bcells_length, enc8_length]; omega) (by rw [bcells_length, bcells_length, enc8_length]; omega) ?_)
      intro v9A wA s9A t9A o9A _
      obtain ⟨aA, nA, cA, rfl, -⟩ := SliceAt.form s9A
      have IA := HHA.out.app s9A t9A o9A HZB.out
      clear s9A t9A o9A
      have m0A : wA.cell? ⟨nb, 0, none⟩ = some (.slice x.a z x.cap) := (IA.t.cell (p := ⟨nb, 0, none⟩) (fun e => e.2 rfl) IA.z).trans HBB.out.2.2.2.1
      have m1A : wA.cell? ⟨nb, 1, none⟩ = some (.bool x.u) := (IA.t.cell (p := ⟨nb, 1, none⟩) (fun e => e.2 rfl) IA.z).trans HBB.out.2.2.2.2
      clear m0
      have HIA := Lib.hid IA
      clear IA I0
      cases hu : x.u with
      | false =>
        rw [hu] at m1A
        have HU := Lib.hid hu
        clear hu
        go_wp2_with fail
        refine (reight_calls 0 wA).mono ?_
        rintro e w8B ⟨v8B, rfl, s8B, b8B, -⟩
        obtain ⟨a8B, c8B, rfl⟩ := eight_form s8B
        have h8B := HIA.out.below b8B
        have HSB := Lib.hid (And.intro h8B.s s8B)
        have HHB := Lib.hid h8B
        clear h8B s8B b8B
        go_wp2_with (at_builtin; refine wpList_append _ rfl _ _ 53 53 rfl 5 1 1 (.int .u8 0) Try.underlying53 (.inr ⟨_, Try.underlying53⟩) elemU8 (.slice aA nA cA) _ rfl HSB.out.1 _ 8 _ rfl (Src.of_slice HSB.out.2) (bcells_one' _) (by rw [bcells_length, bcells_length, enc8_length]; simp only [List.length_append, enc8_length]; omega) (by rw [bcells_length, bcells_length, enc8_length]; simp only [List.length_append, enc8_length]; omega) ?_)
        intro v9B wB s9B t9B o9B _
        obtain ⟨aB, nB, cB, rfl, -⟩ := SliceAt.form s9B
        have IB := HHB.out.app s9B t9B o9B HZB.out
        clear s9B t9B o9B
        have HIB := Lib.hid IB
        clear IB m0A m1A
        go_wp2_with fail
        go_roundg (gk - 1)
        case measure => have := HXX.out.1; omega
        case rel =>
          obtain ⟨hj, hb, hX, hal, hzb, hg, hxu, hws, hwx, hwlt, hwd, hS, hB, hO, hz0⟩ := HXX.out
          have e3 : L.length - (gk - 1) = j + 1 := by omega
          have hI := HIB.out
          have hfm : (S.take (j + 1)).flatMap bim = X ++ enc8 z ++ enc8 0 := by
            rw [free_take hb, List.flatMap_append, hX]
            simp only [List.flatMap_cons, List.flatMap_nil, List.append_nil, bim, ← hxu, HU.out]
            rw [hzb]; simp
          rw [e3, hfm, free_take hb, sz_append, hal]
          refine ⟨by omega, by go_num, by simp only [sz]; rw [← hzb]; go_num, hI.s, ?_, fun k hk => (hI.o k hk).1⟩
          have t1 := HBB.out.1
          have := HBB.out.2.1
          exact hB.trans ⟨by rw [hI.t.os, t1.os], by rw [hI.t.tape, t1.tape], by rw [hI.t.output, t1.output], by have := hI.t.size; have := t1.size; omega, fun k hk => by rw [hI.t.block k (by have := t1.size; omega) (by omega), t1.block k (by omega) id]⟩
      | true =>
        rw [hu] at m1A
        have HU := Lib.hid hu
        clear hu
        go_wp2_with fail
        refine (reight_calls 1 wA).mono ?_
        rintro e w8C ⟨v8C, rfl, s8C, b8C, -⟩
        obtain ⟨a8C, c8C, rfl⟩ := eight_form s8C
        have h8C := HIA.out.below b8C
        have HSC := Lib.hid (And.intro h8C.s s8C)
        have HHC := Lib.hid h8C
        clear h8C s8C b8C
        go_wp2_with (at_builtin; refine wpList_append _ rfl _ _ 53 53 rfl 5 1 1 (.int .u8 0) Try.underlying53 (.inr ⟨_, Try.underlying53⟩) elemU8 (.slice aA nA cA) _ rfl HSC.out.1 _ 8 _ rfl (Src.of_slice HSC.out.2) (bcells_one' _) (by rw [bcells_length, bcells_length, enc8_length]; simp only [List.length_append, enc8_length]; omega) (by rw [bcells_length, bcells_length, enc8_length]; simp only [List.length_append, enc8_length]; omega) ?_)
        intro v9C wC s9C t9C o9C _
        obtain ⟨aC, nC, cC, rfl, -⟩ := SliceAt.form s9C
        have IC := HHC.out.app s9C t9C o9C HZB.out
        clear s9C t9C o9C
        have HIC := Lib.hid IC
        clear IC m0A m1A
        go_wp2_with fail
        obtain ⟨gk0, hgk0⟩ : ∃ g, g = gk := ⟨_, rfl⟩
        have HG0 := Lib.hid hgk0
        clear hgk0
        go_loopg [4, 7] (z - 1) (fun k ov kv wx => k ≤ z - 1 ∧ kv = .int .i64 ((z - k : Nat) : Int) ∧ ImI wB n0 nb wx ov (X ++ enc8 z ++ enc8 1 ++ ((ws.drop 1).take (z - k - 1)).flatMap enc8))
        case atStart =>
          have e1 : z - (z - 1) = 1 := by omega
          rw [e1]
          exact ⟨Nat.le_refl _, rfl, by simpa using HIC.out⟩
        case round =>
          obtain ⟨hk2, rfl, I⟩ := hrel
          obtain ⟨q, hq⟩ : ∃ q, z - gk = q := ⟨_, rfl⟩
          rw [hq] at I ⊢
          obtain ⟨oa2, on2, oc2, rfl, -⟩ := SliceAt.form I.s
          have m0w : wr.cell? ⟨nb, 0, none⟩ = some (.slice x.a z x.cap) := (I.t.cell (p := ⟨nb, 0, none⟩) (fun e => e.2 rfl) I.z).trans HBB.out.2.2.2.1
          have hwl : ws.length = z := by rw [HXX.out.2.2.2.2.2.2.2.1]; exact HXX.out.2.2.2.2.1.symm
          have HQ := Lib.hid (And.intro hq hwl)
          by_cases hlt2 : q < z
          · obtain ⟨v, hv⟩ : ∃ v, ws[q]? = some v := ⟨_, List.getElem?_eq_getElem (by omega)⟩
            have hwx := HXX.out.2.2.2.2.2.2.2.2.1
            have hwlt := HXX.out.2.2.2.2.2.2.2.2.2.1
            obtain ⟨yg, yoff, hya⟩ := SliceAt.addr hwx (by omega)
            have hygn : yg < n0 := hwlt yg (by rw [hya]; rfl)
            rw [hya] at m0w hwx
            have c5 : wr.cell? ⟨yg, yoff + q, none⟩ = some (.int .i64 v) := by
              have h1 := SliceAt.cells hwx q (.int .i64 v) (by unfold icells; rw [List.getElem?_map, hv]; rfl)
              rw [I.t.cell (p := ⟨yg, yoff + q, none⟩) (show ¬ (n0 + 1 ≤ yg ∧ yg ≠ nb) by omega) (by show yg < _; have := HZB.out; omega), HBB.out.1.cell (p := ⟨yg, yoff + q, none⟩) id (cell_lt h1)]
              exact h1
            have HV := Lib.hid hv
            obtain ⟨X2, hX2⟩ : ∃ X2, X ++ enc8 z ++ enc8 1 ++ ((ws.drop 1).take (q - 1)).flatMap enc8 = X2 := ⟨_, rfl⟩
            rw [hX2] at I
            have hX2l : X2.length ≤ 1000000 := by
              rw [← hX2]
              simp only [List.length_append, enc8_length, flat8_length, List.length_take]
              omega
            have HX2 := Lib.hid hX2
            have HI2 := Lib.hid I
            clear hX2 hv hya hygn hwx hwlt hq hwl I
            go_wp2_with fail
            refine (reight_calls v wr).mono ?_
            rintro e w8D ⟨v8D, rfl, s8D, b8D, -⟩
            obtain ⟨a8D, c8D, rfl⟩ := eight_form s8D
            have h8D := HI2.out.below b8D
            have HSD := Lib.hid (And.intro h8D.s s8D)
            have HHD := Lib.hid h8D
            clear h8D s8D b8D
            go_wp2_with (at_builtin; refine wpList_append _ rfl _ _ 53 53 rfl 5 1 1 (.int .u8 0) Try.underlying53 (.inr ⟨_, Try.underlying53⟩) elemU8 (.slice oa2 on2 oc2) _ rfl HSD.out.1 _ 8 _ rfl (Src.of_slice HSD.out.2) (bcells_one' _) (by rw [bcells_length, bcells_length, enc8_length]; omega) (by rw [bcells_length, bcells_length, enc8_length]; omega) ?_)
            intro v9D wD s9D t9D o9D _
            obtain ⟨aD, nD, cD, rfl, -⟩ := SliceAt.form s9D
            have ID := HHD.out.app s9D t9D o9D HZB.out
            clear s9D t9D o9D
            have HID := Lib.hid ID
            clear ID m0w c5
            go_wp2_with fail
            go_roundg (gk - 1)
            case measure => have := HQ.out.1; omega
            case rel =>
              have h1 := HQ.out.1
              have e3 : z - (gk - 1) = q + 1 := by omega
              have hI := HID.out
              rw [← HX2.out] at hI
              have h2 : (ws.drop 1).take (q + 1 - 1) = (ws.drop 1).take (q - 1) ++ [v] := by
                rw [show q + 1 - 1 = (q - 1) + 1 by omega, List.take_add_one, List.getElem?_drop, show 1 + (q - 1) = q by omega, HV.out]
                rfl
              rw [e3, h2]
              exact ⟨by omega, by go_num, by simpa [List.append_assoc] using hI⟩
          · have hqz : q = z := by omega
            have q9 : decide ((q : Int) < (z : Int)) = false := decide_eq_false (by omega)
            have q10 : decide (q < z) = false := decide_eq_false hlt2
            have HI2 := Lib.hid (And.intro I hqz)
            clear hq hwl I hqz
            go_wp2_with fail
            go_roundg (gk0 - 1)
            case measure => have := HG0.out; have := HXX.out.1; omega
            case rel =>
              obtain ⟨hj, hb, hX, hal, hzb, hg, hxu, hws, hwx, hwlt, hwd, hS, hB, hO, hz0⟩ := HXX.out
              have hgk := HG0.out
              have e3 : L.length - (gk0 - 1) = j + 1 := by omega
              have hI := HI2.out.1
              have hbu : b.used = true := by rw [← hxu]; exact HU.out
              have hfull := hg.full hbu
              have hws1 := hwd hbu
              have htk : (ws.drop 1).take (q - 1) = b.ws := by rw [hws1, List.take_of_length_le (tk_len hfull hzb HI2.out.2)]
              rw [htk] at hI
              have hfm : (S.take (j + 1)).flatMap bim = X ++ enc8 z ++ enc8 1 ++ b.ws.flatMap enc8 := by
                rw [free_take hb, List.flatMap_append, hX]
                simp only [List.flatMap_cons, List.flatMap_nil, List.append_nil, bim, hbu, if_true]
                rw [hzb]; simp
              rw [e3, hfm, free_take hb, sz_append, hal]
              refine ⟨by omega, by go_num, by simp only [sz]; rw [← hzb]; go_num, hI.s, ?_, fun k hk => (hI.o k hk).1⟩
              have t1 := HBB.out.1
              have := HBB.out.2.1
              exact hB.trans ⟨by rw [hI.t.os, t1.os], by rw [hI.t.tape, t1.tape], by rw [hI.t.output, t1.output], by have := hI.t.size; have := t1.size; omega, fun k hk => by rw [hI.t.block k (by have := t1.size; omega) (by omega), t1.block k (by omega) id]⟩
    · obtain rfl : j = L.length := by omega
      have hp : S.take L.length = S := by rw [H.out.1.len, List.take_length]
      have hok := H.out.2.1
      rw [hp] at hX hal
      have haln : al = n := by rw [← hal]; exact hok.sum
      have HF := Lib.hid (And.intro hX (And.intro haln (And.intro hS (And.intro hB hz0))))
      clear hp hX hal haln hS hB hO hj hfl hsj hs32 hok
      go_wp2_with fail
      refine (reight_calls (al : Int) wr).mono ?_
      rintro e w8 ⟨v8, rfl, s8, b8, own8⟩
      obtain ⟨a8, c8, rfl⟩ := eight_form s8
      have hS8 : SliceAt w8 5 1 (.slice oa on oc) (bcells X) := SliceAt.keep HF.out.2.2.1 fun k hk => b8.block k (SliceAt.lt HF.out.2.2.1 k hk)
      have HS := Lib.hid (And.intro s8 (And.intro hS8 (And.intro b8 own8)))
      clear s8 b8 hS8 own8
      go_wp2_with (at_builtin; refine wpList_append _ rfl _ _ 53 53 rfl 5 1 1 (.int .u8 0) Try.underlying53 (.inr ⟨_, Try.underlying53⟩) elemU8 (.slice a8 8 c8) _ rfl HS.out.1 _ on _ rfl (Src.of_slice HS.out.2.1) (bcells_one' _) (by rw [bcells_length, bcells_length, enc8_length]; omega) (by rw [bcells_length, bcells_length, enc8_length]; omega) ?_)
      intro v9 w9 s9 t9 o9 _
      have HT := Lib.hid (And.intro s9 t9)
      clear s9 t9 o9
      go_wp2_with fail
      go_ret
      obtain ⟨hX, haln, hS, hB, hz0⟩ := HF.out
      refine ⟨v9, rfl, ?_, ?_⟩
      · have h1 := HT.out.1
        rw [← bcells_append, haln, ← hX] at h1
        exact h1
      · have h1 := H1.out.1
        have hb8 := HS.out.2.2.1
        have h2 : Below n0 w9 w9 := Below.refl _ _
        rw [H1.out.2.2.2]
        have h3 : Below n0 w w8 := (h1.trans (hB.mono (by omega))).trans (hb8.mono (by omega))
        have t9 := HT.out.2
        exact h3.trans ⟨t9.os, t9.tape, t9.output, t9.size, fun k hk => t9.block k (by have := hb8.size; omega) (fun e => by have := HS.out.2.2.2 k e; omega)⟩
end Go.Sto
