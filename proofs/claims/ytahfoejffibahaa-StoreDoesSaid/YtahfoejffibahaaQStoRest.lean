/-
  Restore, walked: the store of bytes, as the plain function has it.
-/
import Derived.Test.YtahfoejffibahaaQStoRestPure
set_option linter.unusedVariables false

namespace Go.Sto
open Go.Own Go.RowKit Go.Proofs

def pvOf (L : List Nd) : Option Bool := L.getLast?.map fun x => x.b.used
theorem pvOf_snoc (L : List Nd) (x : Nd) : pvOf (L ++ [x]) = some x.b.used := by simp [pvOf]

/-- What has been read of a store. -/
structure RSI (w0 : World) (rb bb sb : Nat) (n : Nat) (l1 : List Int) (g : Ghost) (a : Option Addr) (cap : Nat) (l : List Int) (w : World) : Prop where
  rep : Rep g (bs g.L) w
  gs : g.s = sb
  gn : g.n = n
  fresh : ∀ k, w.heap.size ≤ k → g.ρ k = (0, 0)
  rd : RD rb bb a cap false l w
  bb0 : l ≠ [] → bb < w0.heap.size
  old : Below w0.heap.size w0 w
  ko : KeepsOthers w0 w
  tags : ∀ k, k < w0.heap.size → g.ρ k = (0, 0)
  rb0 : w0.heap.size ≤ rb ∧ g.ρ rb = (0, 0)
  le : sz (bs g.L) ≤ n
  two : 2 * g.L.length ≤ sz (bs g.L)
  eq : ∃ F, F + g.L.length = n + 1 ∧ blocksIn (n + 1) none n l1 = cont (bs g.L) (blocksIn F (pvOf g.L) ((n : Int) - sz (bs g.L)) l)

theorem snoc_last {L : List Nd} {x : Nd} : lst (L ++ [x]) none = some x.p := by rw [lst_append]; rfl

theorem rsi_step {w0 w w5 w6 : World} {rb bb sb n : Nat} {l1 l r ws : List Int} {g : Ghost} {a a5 : Option Addr} {cap c5 p : Nat} {size at_ : Int} {used : Bool} {v : Value} {ov : Option Addr}
    (h : RSI w0 rb bb sb n l1 g a cap l w) (h0 : sz (bs g.L) < n) (hb : parse (pvOf g.L) ((n : Int) - sz (bs g.L)) l = .ok (size, used, ws, r)) (bi : BI w rb p at_ size used v (.pointer ov) w5) (hat : at_ = (sz (bs g.L) : Nat)) (hov : .pointer ov = ptr (lst g.L none))
    (hsl : SliceAt w5 3 1 v (icells ws)) (hown : ∀ k, v.ownBlock = some k → w.heap.size ≤ k ∧ k ≠ p) (rd5 : RD rb bb a5 c5 false r w5)
    (h6 : (g.L = [] ∧ w6 = w5.setCell ⟨sb, 1, none⟩ (.pointer (some ⟨p, 0, none⟩))) ∨ ∃ D x, g.L = D ++ [x] ∧ w6 = w5.setCell ⟨x.p, 4, none⟩ (.pointer (some ⟨p, 0, none⟩))) :
    ∃ g6, g6.L = g.L ++ [⟨p, v, ⟨size.toNat, used, ws⟩⟩] ∧ RSI w0 rb bb sb n l1 g6 a5 c5 r w6 := by
  obtain ⟨p1, p2, p3, p4, p5, p6⟩ := parse_ok hb
  have hsize : ((size.toNat : Nat) : Int) = size := by omega
  have r5 : Rep g (bs g.L) w5 := h.rep.keep bi.turn (fun k _ hk => by rw [hk, h.rb0.2])
  have hBL : ∀ x ∈ g.L, x.p < w.heap.size := fun x hx => h.rep.plt hx
  have hBs : g.s < w.heap.size := heap_lt h.rep.st
  have hnode : w5.heap[p]? = some (.cells (ndCells (sz (bs g.L)) ⟨p, v, ⟨size.toNat, used, ws⟩⟩ none (lst g.L none)) 87 (0, 0)) := by
    rw [bi.node, hov, hat]
    unfold ndCells
    simp only [hsize]
    rfl
  obtain ⟨g6, e6, s6, n6, r6, t6, f6⟩ := Rep.snoc (w2 := w6) r5 h.fresh hBL hBs bi.pnew hnode hsl hown (by rw [h.gs]; exact h6)
  have hz6 : w6.heap.size = w5.heap.size := by rcases h6 with ⟨-, rfl⟩ | ⟨D, x, -, rfl⟩ <;> simp
  have hz0 := h.old.size
  have hz5 := bi.turn.size
  -- which block the store has turned
  obtain ⟨q, c, hq0, hqw, hw6, hqρ⟩ : ∃ q c, w0.heap.size ≤ q ∧ q < w.heap.size ∧ w6 = w5.setCell ⟨q, c, none⟩ (.pointer (some ⟨p, 0, none⟩)) ∧ g.ρ q ≠ (0, 0) := by
    rcases h6 with ⟨-, rfl⟩ | ⟨D, x, e, rfl⟩
    · refine ⟨sb, 1, ?_, by rw [← h.gs]; exact hBs, rfl, by rw [← h.gs, h.rep.ts]; decide⟩
      rcases Nat.lt_or_ge sb w0.heap.size with hlt | hge
      · have := h.tags sb hlt
        rw [← h.gs, h.rep.ts] at this
        cases this
      · exact hge
    · have hxL : x ∈ g.L := by rw [e]; simp
      refine ⟨x.p, 4, ?_, hBL x hxL, rfl, by rw [h.rep.tp x hxL]; intro e; cases e⟩
      rcases Nat.lt_or_ge x.p w0.heap.size with hlt | hge
      · have := h.tags x.p hlt
        rw [h.rep.tp x hxL] at this
        cases this
      · exact hge
  have hqrb : q ≠ rb := fun e => hqρ (by rw [e]; exact h.rb0.2)
  have t56 : Turn (fun k => k = q) w5 w6 := by rw [hw6]; exact (Turn.refl (fun k => k = q) w5).setCell (p := ⟨q, c, none⟩) (fun _ => rfl) _
  have hrbl : rb < w.heap.size := heap_lt h.rd.blk
  have hbb : r ≠ [] → bb < w0.heap.size := fun hne => h.bb0 (by
    rintro rfl
    simp at p6)
  obtain ⟨F, hF, heq⟩ := h.eq
  refine ⟨g6, e6, { rep := r6, gs := s6.trans h.gs, gn := n6.trans h.gn, fresh := f6, rd := ?_, bb0 := hbb, old := ?_, ko := ?_, tags := fun k hk => ?_, rb0 := ⟨h.rb0.1, ?_⟩, le := ?_, two := ?_, eq := ?_ }⟩
  · exact rd5.more t56 (fun e => hqrb e.symm) (fun hne e => by have := hbb hne; omega)
  · refine ⟨t56.os.trans (bi.turn.os.trans h.old.os), t56.tape.trans (bi.turn.tape.trans h.old.tape), t56.output.trans (bi.turn.output.trans h.old.output), by omega, fun k hk => ?_⟩
    rw [t56.block k (by omega) (by omega), bi.turn.block k (by omega) (fun e => by have := h.rb0.1; omega)]
    exact h.old.block k hk
  · rw [hw6]; exact (h.ko.trans bi.ko).trans (KeepsOthers.setCell _ _ _)
  · rw [t6 k (by omega)]; exact h.tags k hk
  · rw [t6 rb hrbl]; exact h.rb0.2
  · rw [e6, bs_append, sz_append]; simp only [bs_cons, bs_nil, sz]; omega
  · rw [e6, bs_append, sz_append, List.length_append]; have := h.two; simp only [bs_cons, bs_nil, sz, List.length_cons, List.length_nil]; omega
  · have h2 := h.two
    obtain ⟨F', rfl⟩ : ∃ F', F = F' + 1 := ⟨F - 1, by omega⟩
    refine ⟨F', by rw [e6, List.length_append]; simp; omega, ?_⟩
    rw [heq, e6, pvOf_snoc, bs_append, ← cont_cont]
    congr 1
    have hl : (n : Int) - ((sz (bs g.L ++ bs [⟨p, v, ⟨size.toNat, used, ws⟩⟩]) : Nat) : Int) = (n : Int) - (sz (bs g.L) : Nat) - size := by
      rw [sz_append]; simp only [bs_cons, bs_nil, sz]; omega
    rw [hl]
    show blocksIn (F' + 1) _ _ _ = _
    rw [blocksIn, if_neg (by omega), hb]
    simp only
    cases blocksIn F' (some used) ((n : Int) - (sz (bs g.L) : Nat) - size) r with
    | error e => rfl
    | ok x => obtain ⟨S, r'⟩ := x; rfl

theorem rsi_prev {w0 w : World} {rb bb sb n : Nat} {l1 l : List Int} {g : Ghost} {a : Option Addr} {cap : Nat} (h : RSI w0 rb bb sb n l1 g a cap l w) (hn : n ≤ 32000) {D : List Nd} {x : Nd} (e : g.L = D ++ [x]) :
    Prev rb (some ⟨x.p, 0, none⟩) ((sz (bs g.L) : Nat) : Int) (pvOf g.L) w := by
  obtain ⟨d0, d1, d2, -⟩ := nd_cells (h.rep.mid e)
  have hle := h.le
  have h2 : sz (bs g.L) = sz (bs D) + x.b.size := by rw [e, bs_append, sz_append]; simp [sz]
  refine .inr ⟨x.p, _, _, _, rfl, d0, d1, d2, by rw [h2]; omega, by omega, by omega, by omega, by omega, by rw [e, pvOf_snoc], fun hh => ?_⟩
  have := h.rep.tp x (by rw [e]; simp)
  rw [hh, h.rb0.2] at this
  cases this

theorem rsi_err {w0 w : World} {rb bb sb n : Nat} {l1 l : List Int} {g : Ghost} {a : Option Addr} {cap : Nat} (h : RSI w0 rb bb sb n l1 g a cap l w) (h0 : sz (bs g.L) < n) {er : Int} (hp : parse (pvOf g.L) ((n : Int) - sz (bs g.L)) l = .error er) : blocksIn (n + 1) none n l1 = .error er := by
  obtain ⟨F, hF, heq⟩ := h.eq
  have h2 := h.two
  obtain ⟨F', rfl⟩ : ∃ F', F = F' + 1 := ⟨F - 1, by omega⟩
  rw [heq, blocksIn, if_neg (by omega), hp]
  rfl

theorem rsi_end {w0 w : World} {rb bb sb n : Nat} {l1 l : List Int} {g : Ghost} {a : Option Addr} {cap : Nat} (h : RSI w0 rb bb sb n l1 g a cap l w) (h0 : sz (bs g.L) = n) (_hn : 1 ≤ n) : blocksIn (n + 1) none n l1 = .ok (bs g.L, l) := by
  obtain ⟨F, hF, heq⟩ := h.eq
  have h2 := h.two
  obtain ⟨F', rfl⟩ : ∃ F', F = F' + 1 := ⟨F - 1, by omega⟩
  rw [heq, blocksIn, if_pos (by omega)]
  simp [cont]

theorem restore_of {l : List Int} {m : Nat} (hs : 8 ≤ l.length) (hn : dec (l.take 8) = m) (hv : 4 ≤ (m : Int) ∧ (m : Int) ≤ 32000 ∧ (m : Int) % 2 = 0) :
    restore l = match blocksIn (m + 1) none m (l.drop 8) with
      | .error e => .error e
      | .ok (S, r) => if r = [] then .ok (m, S) else .error 3 := by
  unfold restore
  rw [if_neg (by omega), hn, if_neg (by simpa using hv)]
  rfl

def RestPost (l : List Int) (w : World) (e : Ending) (w' : World) : Prop :=
  (∃ er, restore l = .error er ∧ e = .returned (.tuple #[.pointer none, .int .i64 er]) ∧ Below w.heap.size w w' ∧ KeepsOthers w w') ∨
  ∃ n S g, restore l = .ok ((n : Nat), S) ∧ e = .returned (.tuple #[.pointer (some ⟨g.s, 0, none⟩), .int .i64 0]) ∧ g.n = n ∧ Repo g S w' ∧ Below w.heap.size w w' ∧ (∀ k, k < w.heap.size → g.ρ k = (0, 0)) ∧ KeepsOthers w w'

set_option maxRecDepth 100000 in
set_option maxHeartbeats 4000000 in
theorem restore_calls {w : World} {bb : Nat} {a : Option Addr} {cap : Nat} {l : List Int} (hb : BytesC w bb a l) (hle : l.length ≤ cap) (hsm : l.length ≤ 1000000000) (hby : ∀ x ∈ l, 0 ≤ x ∧ x < 256) :
    Calls Try.prog 28 #[.slice a l.length cap] w (RestPost l w) := by
  have rd0 : RD w.heap.size bb a cap false l (w.alloc (.cells #[.slice a l.length cap, .bool false] 100)) :=
    { blk := heap_alloc_new w _, bytes := hb.turn (T := fun _ => False) (fun _ => id) ((Turn.refl _ w).alloc _), le := hle, small := hsm, byte := hby }
  have hbb : l ≠ [] → bb < w.heap.size := fun hne => by
    cases l with
    | nil => exact absurd rfl hne
    | cons x l =>
      obtain ⟨off, -, c⟩ := hb 0 x rfl
      exact cell_lt c
  have hnc := number_calls rd0
  have hn1 : (l.length < 8 ∧ num l false = (0, l, true)) ∨ (8 ≤ l.length ∧ num l false = (dec (l.take 8), l.drop 8, false)) := by
    rcases Nat.lt_or_ge l.length 8 with q | q
    · exact .inl ⟨q, num_short _ q⟩
    · exact .inr ⟨q, num_false q⟩
  obtain ⟨⟨n1, l1, s1⟩, hnm⟩ : ∃ r, num l false = r := ⟨_, rfl⟩
  unfold NumPost at hnc
  rw [hnm] at hnc hn1
  simp only at hnc
  have HC := Lib.hid (And.intro hnc (And.intro hn1 hbb))
  clear hnc hn1 hbb hnm rd0 hb hle hsm hby
  go_enter Try.func28, Try.ntmps28
  go_upto_region 3 with (go_at_call 53; refine HC.out.1.mono ?_; rintro e w1 ⟨rfl, ⟨a1, c1, r1⟩, t1, hz1, k1⟩; have H1 := Lib.hid (And.intro r1 (And.intro t1 (And.intro hz1 k1))); clear r1 t1 hz1 k1)
  obtain ⟨rb, hrb⟩ : ∃ rb, w.heap.size = rb := ⟨_, rfl⟩
  obtain ⟨-, r1⟩ := H1.out.1.cells
  rw [hrb] at r1 ⊢
  have HRB := Lib.hid hrb
  have hBw1 : Below w.heap.size w w1 := by
    have t := H1.out.2.1
    refine ((Below.refl _ w).alloc (Nat.le_refl _) _).trans ⟨t.os, t.tape, t.output, t.size, fun k hk => t.block k (by simp; omega) (by omega)⟩
  have hKw1 : KeepsOthers w w1 := (KeepsOthers.alloc _ _).trans H1.out.2.2.2
  have HW1 := Lib.hid (And.intro hBw1 hKw1)
  clear hrb hBw1 hKw1
  rcases HC.out.2.1 with ⟨hs, he⟩ | ⟨hs, he⟩
  · cases he
    have FIN := Lib.hid (show RestPost l w (.returned (.tuple #[.pointer none, .int .i64 7])) w1 from .inl ⟨7, by unfold restore; rw [if_pos hs], rfl, HW1.out.1, HW1.out.2⟩)
    clear hs
    go_wp2_with fail
    go_ret2
    exact FIN.out
  · cases he
    obtain ⟨n, hn⟩ : ∃ n, dec (l.take 8) = n := ⟨_, rfl⟩
    rw [hn]
    have hv := valid_calls n w1
    by_cases hval : 4 ≤ n ∧ n ≤ 32000 ∧ n % 2 = 0
    · rw [decide_eq_true hval] at hv
      have HV := Lib.hid hv
      obtain ⟨m, rfl⟩ := Int.eq_ofNat_of_zero_le (by omega : 0 ≤ n)
      have HN := Lib.hid (And.intro hn (And.intro hval hs))
      have hm : m ≤ 32000 := by omega
      clear hv hval hn hs
      go_upto_region 8 with (go_at_call 44; refine HV.out.mono ?_; rintro e w2 ⟨rfl, rfl⟩)
      obtain ⟨wS, hwS⟩ : ∃ wS, w2.alloc (.cells #[.int .i64 (m : Nat), .pointer none] 89) = wS := ⟨_, rfl⟩
      obtain ⟨sb, hsb⟩ : ∃ sb, w2.heap.size = sb := ⟨_, rfl⟩
      have hz2 : w.heap.size + 1 ≤ w2.heap.size := by have := H1.out.2.2.1; simp at this; omega
      have start : RSI w rb bb sb m (l.drop 8) ⟨sb, m, [], fun k => if k = sb then (3, 0) else (0, 0)⟩ a1 c1 (l.drop 8) wS :=
        { rep := { map := rfl, st := by show wS.heap[sb]? = _; rw [← hwS, ← hsb]; exact heap_alloc_new w2 _, ts := if_pos rfl
                   fresh := fun k hk => by
                     have : k ≠ sb := by rw [← hwS] at hk; simp at hk; omega
                     show (if k = sb then ((3, 0) : Tag) else (0, 0)).1 = 0
                     rw [if_neg this]
                   chain := trivial, tp := fun x hx => by cases hx
                   nodup := List.Pairwise.nil, wv := fun x hx => by cases hx }
          gs := rfl, gn := rfl
          fresh := fun k hk => if_neg (by rw [← hwS] at hk; simp at hk; omega)
          rd := by rw [← hwS, ← HRB.out]; exact H1.out.1.more (T := fun _ => False) ((Turn.refl _ w2).alloc _) id (fun _ => id)
          bb0 := fun hne => HC.out.2.2 (by rintro rfl; exact hne rfl)
          old := by rw [← hwS]; exact HW1.out.1.alloc (by omega) _
          ko := by rw [← hwS]; exact HW1.out.2.trans (KeepsOthers.alloc _ _)
          tags := fun k hk => if_neg (by omega)
          rb0 := ⟨by rw [← HRB.out]; exact Nat.le_refl _, if_neg (by have := HRB.out; omega)⟩
          le := by simp [sz], two := by simp
          eq := ⟨m + 1, rfl, by rw [show bs (Ghost.L ⟨sb, m, [], fun k => if k = sb then (3, 0) else (0, 0)⟩) = [] from rfl, cont_nil]; simp [sz, pvOf]⟩ }
      have HST := Lib.hid start
      rw [hsb]
      rw [hwS]
      clear start hwS hsb hz2 r1
      go_wp2
      go_loopg [7, 8] (m) (fun k u i wx => k ≤ m ∧ i = .int .i64 (k : Nat) ∧ ∃ g a' c' l', u = ptr (lst g.L none) ∧ sz (bs g.L) + k = m ∧ RSI w rb bb sb m (l.drop 8) g a' c' l' wx)
      case atStart => exact ⟨Nat.le_refl _, rfl, _, a1, c1, _, rfl, by simp [sz], HST.out⟩
      case round =>
        obtain ⟨hk, rfl, g, a', c', l', rfl, hsum, hR⟩ := hrel
        have HR := Lib.hid hR
        obtain ⟨-, r1⟩ := hR.rd.cells
        obtain ⟨r0, -⟩ := hR.rd.cells
        clear hR
        by_cases hk0 : 0 < gk
        · have g1 : decide ((0 : Int) < (gk : Nat)) = true := by simp; omega
          have hleft : (m : Int) - (sz (bs g.L) : Nat) = gk := by omega
          rcases List.eq_nil_or_concat g.L with hL | ⟨D, x, hL⟩
          · have hprev : Prev rb none ((sz (bs g.L) : Nat) : Int) (pvOf g.L) wr := .inl ⟨rfl, by rw [hL]; rfl, by rw [hL]; rfl⟩
            have hbc := blk_calls HR.out.rd (fun hne => by have := HR.out.bb0 hne; have := HR.out.old.size; omega) hprev (gk : Nat) (by omega) (by omega)
            have HB := Lib.hid (And.intro hbc (And.intro hL (And.intro hsum hleft)))
            rw [hL]
            simp only [lst, ptr_none]
            clear hbc hL hsum hleft hprev r0 r1
            go_wp2_with fail
            refine HB.out.1.mono ?_
            rintro e w5 (⟨er, hpe, rfl, t5, k5⟩ | ⟨size, used, ws, r, p, v, a5, c5, hpe, rfl, bi, hsl, hown, rd5⟩)
            · have h9 : restore l = .error er := by
                rw [restore_of HN.out.2.2 HN.out.1 HN.out.2.1, rsi_err HR.out (by have := HB.out.2.2.1; omega) (by rw [HB.out.2.2.2]; exact hpe)]
              have hBx : Below w.heap.size w w5 := HR.out.old.trans ⟨t5.os, t5.tape, t5.output, t5.size, fun k hk => t5.block k (by have := HR.out.old.size; omega) (by have := HRB.out; omega)⟩
              have FIN := Lib.hid (show RestPost l w (.returned (.tuple #[.pointer none, .int .i64 er])) w5 from .inl ⟨er, h9, rfl, hBx, HR.out.ko.trans k5⟩)
              have her : (er == 0) = false := by
                rw [beq_eq_false_iff_ne]
                rintro rfl
                exact parse_err hpe
              have her2 : (er != 0) = true := by simp [bne, her]
              clear h9 hBx hpe t5 k5
              go_wp2_with fail
              go_ret2
              exact FIN.out
            · have hst : w5.heap[sb]? = some (.cells #[.int .i64 (m : Nat), .pointer none] 89 (0, 0)) := by
                have h1 := HR.out.rep.st
                rw [HR.out.gs, HR.out.gn, HB.out.2.1] at h1
                refine (bi.turn.block sb (heap_lt h1) (fun e => ?_)).trans h1
                have h2 := HR.out.rep.ts
                rw [HR.out.gs, e, HR.out.rb0.2] at h2
                cases h2
              have hsp : sb ≠ p := fun e => by
                have h1 := HR.out.rep.st
                have := heap_lt h1
                rw [HR.out.gs] at this
                have := bi.pnew
                omega
              have hps : p ≠ sb := fun e => hsp e.symm
              have f1 : w5.frozen? ⟨sb, 1, none⟩ = false := frozen_at hst
              have f2 := cell_at hst (i := 1) rfl
              obtain ⟨-, m1, -, -, -⟩ := bi.cells
              obtain ⟨g6, e6, h6⟩ := rsi_step HR.out (by have := HB.out.2.2.1; omega) (by rw [HB.out.2.2.2]; exact hpe) bi rfl (by rw [HB.out.2.1]; rfl) hsl hown rd5 (.inl ⟨HB.out.2.1, rfl⟩)
              obtain ⟨p1, p2, p3, -⟩ := parse_ok hpe
              have H6 := Lib.hid (And.intro e6 h6)
              have hw1 : IntKind.i64.wrap ((gk : Nat) - size) = (gk : Nat) - size := IntWalk.i64_in _ (by omega)
              have hw2 : wrap64 ((gk : Nat) - size) = (gk : Nat) - size := by unfold wrap64; omega
              clear hst hpe bi hsl hown rd5 e6 h6 p2
              go_wp2_with fail
              go_roundg (gk - size.toNat)
              case measure => omega
              case rel =>
                have hh := HB.out.2.2.1
                refine ⟨by omega, ?_, g6, a5, c5, r, by rw [H6.out.1, snoc_last]; rfl, ?_, H6.out.2⟩
                · congr 1; omega
                · rw [H6.out.1, bs_append, sz_append]; simp only [bs_cons, bs_nil, sz]; omega
          · rw [List.concat_eq_append] at hL
            have hprev : Prev rb (some ⟨x.p, 0, none⟩) ((sz (bs g.L) : Nat) : Int) (pvOf g.L) wr := rsi_prev HR.out hm hL
            have hbc := blk_calls HR.out.rd (fun hne => by have := HR.out.bb0 hne; have := HR.out.old.size; omega) hprev (gk : Nat) (by omega) (by omega)
            have HB := Lib.hid (And.intro hbc (And.intro hL (And.intro hsum hleft)))
            rw [hL, snoc_last]
            simp only [ptr_some]
            clear hbc hL hsum hleft hprev r0 r1
            go_wp2_with fail
            refine HB.out.1.mono ?_
            rintro e w5 (⟨er, hpe, rfl, t5, k5⟩ | ⟨size, used, ws, r, p, v, a5, c5, hpe, rfl, bi, hsl, hown, rd5⟩)
            · have h9 : restore l = .error er := by
                rw [restore_of HN.out.2.2 HN.out.1 HN.out.2.1, rsi_err HR.out (by have := HB.out.2.2.1; omega) (by rw [HB.out.2.2.2]; exact hpe)]
              have hBx : Below w.heap.size w w5 := HR.out.old.trans ⟨t5.os, t5.tape, t5.output, t5.size, fun k hk => t5.block k (by have := HR.out.old.size; omega) (by have := HRB.out; omega)⟩
              have FIN := Lib.hid (show RestPost l w (.returned (.tuple #[.pointer none, .int .i64 er])) w5 from .inl ⟨er, h9, rfl, hBx, HR.out.ko.trans k5⟩)
              have her : (er == 0) = false := by
                rw [beq_eq_false_iff_ne]
                rintro rfl
                exact parse_err hpe
              have her2 : (er != 0) = true := by simp [bne, her]
              clear h9 hBx hpe t5 k5
              go_wp2_with fail
              go_ret2
              exact FIN.out
            · have hxL : x ∈ g.L := by rw [HB.out.2.1]; simp
              have hxm := HR.out.rep.mid HB.out.2.1
              have hxrb : x.p ≠ rb := fun e => by
                have h2 := HR.out.rep.tp x hxL
                rw [e, HR.out.rb0.2] at h2
                cases h2
              have hst := (bi.turn.block x.p (heap_lt hxm) hxrb).trans hxm
              have hsp : x.p ≠ p := fun e => by
                have := heap_lt hxm
                have := bi.pnew
                omega
              have hps : p ≠ x.p := fun e => hsp e.symm
              have f1 : w5.frozen? ⟨x.p, 4, none⟩ = false := frozen_at hst
              have f2 := cell_at hst (i := 4) rfl
              obtain ⟨-, m1, -, -, -⟩ := bi.cells
              obtain ⟨g6, e6, h6⟩ := rsi_step HR.out (by have := HB.out.2.2.1; omega) (by rw [HB.out.2.2.2]; exact hpe) bi rfl (by rw [HB.out.2.1, snoc_last]; rfl) hsl hown rd5 (.inr ⟨D, x, HB.out.2.1, rfl⟩)
              obtain ⟨p1, p2, p3, -⟩ := parse_ok hpe
              have H6 := Lib.hid (And.intro e6 h6)
              have hw1 : IntKind.i64.wrap ((gk : Nat) - size) = (gk : Nat) - size := IntWalk.i64_in _ (by omega)
              have hw2 : wrap64 ((gk : Nat) - size) = (gk : Nat) - size := by unfold wrap64; omega
              clear hst hpe bi hsl hown rd5 e6 h6 p2 hxm hxL
              go_wp2_with fail
              go_roundg (gk - size.toNat)
              case measure => omega
              case rel =>
                have hh := HB.out.2.2.1
                refine ⟨by omega, ?_, g6, a5, c5, r, by rw [H6.out.1, snoc_last]; rfl, ?_, H6.out.2⟩
                · congr 1; omega
                · rw [H6.out.1, bs_append, sz_append]; simp only [bs_cons, bs_nil, sz]; omega
        · have hk1 : gk = 0 := by omega
          subst hk1
          have h9 := restore_of HN.out.2.2 HN.out.1 HN.out.2.1
          rw [rsi_end HR.out (by omega) (by have := HN.out.2.1.1; omega)] at h9
          simp only at h9
          by_cases hl : l' = []
          · subst hl
            rw [if_pos rfl] at h9
            obtain ⟨-, -, hok⟩ := restore_ok h9
            have FIN := Lib.hid (show RestPost l w (.returned (.tuple #[.pointer (some ⟨sb, 0, none⟩), .int .i64 0])) wr from .inr ⟨m, bs g.L, g, h9, by rw [HR.out.gs], HR.out.gn, ⟨HR.out.rep, by rw [HR.out.gn]; simpa using hok⟩, HR.out.old, HR.out.tags, HR.out.ko⟩)
            clear h9 hok hsum
            go_wp2_with fail
            go_ret2
            exact FIN.out
          · rw [if_neg hl] at h9
            have FIN := Lib.hid (show RestPost l w (.returned (.tuple #[.pointer none, .int .i64 3])) wr from .inl ⟨3, h9, rfl, HR.out.old, HR.out.ko⟩)
            have hlp : 0 < l'.length := List.length_pos_iff.2 hl
            have g1 : decide ((0 : Int) < (l'.length : Nat)) = true := by simp; omega
            have g2 : decide (0 < l'.length) = true := decide_eq_true hlp
            clear h9 hl hsum
            go_wp2_with fail
            go_ret2
            exact FIN.out
    · rw [decide_eq_false hval] at hv
      have HV := Lib.hid hv
      have FIN := Lib.hid (show RestPost l w (.returned (.tuple #[.pointer none, .int .i64 1])) w1 from .inl ⟨1, by unfold restore; rw [if_neg (by omega), if_pos (by rw [hn]; exact hval)], rfl, HW1.out.1, HW1.out.2⟩)
      clear hv hval hn hs
      go_wp2_with (go_at_call 44; refine HV.out.mono ?_; rintro e w2 ⟨rfl, rfl⟩)
      go_ret2
      exact FIN.out
end Go.Sto
