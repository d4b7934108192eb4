/-
  Do, by its kinds.
-/
import Derived.Test.YtcfegaclbkggpaaRndDo
namespace Go.Rnd
open Go.Own Go.RowKit Go.Proofs

section
variable {g : Gh} {K : KS} {w w' : World}

/-- A call of Do. -/
abbrev doArg (d A B : Int) : Value := .agg #[.int .i64 d, .int .i64 A, .int .i64 B, .int .i64 0, .int .i64 0]

theorem do_create (h : Rep g K w) (ok : K.Ok) {kb t : Nat} (hk : g.k = kb) (hb : K.Best t) (ht : t = 0 → K.n = 0) (hn : K.n < 20) (hc : K.c ≤ 1000000) {p : Int} (h1 : 1 ≤ p) (h2 : p ≤ 1000) (hp : ∀ i, 1 ≤ i → i ≤ K.n → (K.ts i).pri ≠ p) :
    Calls Try.prog 6 #[pt kb, doArg 1 (K.n + 1 : Nat) p] w (NumPost g (K.tick.add p) w 0) := by
  have hby : ∃ bo, By g K t bo ∧ (bo = none → K.n = 0) := by
    rcases hb with ⟨h0, -⟩ | ⟨t1, t2, -⟩
    · exact ⟨none, .inr ⟨h0, rfl⟩, fun _ => ht h0⟩
    · exact ⟨_, .inl ⟨t1, t2, rfl⟩, fun e => by cases e⟩
  obtain ⟨bo, hby, h0⟩ := hby
  exact do_gen h ok hk hb hby (by omega) hc 1 _ p (.inl ⟨rfl, rfl⟩) h0 fun W cb R C => create_calls R hn h1 h2 hp C

theorem do_send (h : Rep g K w) (ok : K.Ok) {kb t p to_ : Nat} (hk : g.k = kb) (hb : K.Best t) (t1 : 1 ≤ t) (t2 : t ≤ K.n) (hn : K.n ≤ 1000) (hc : K.c < 1000000) (u1 : 1 ≤ to_) (u2 : to_ ≤ K.n) (hne : to_ ≠ t) (p1 : 1 ≤ p) (p2 : p ≤ K.m) (hm : K.m ≤ 1000) (hw : (K.ps p).wth = t) (hl : (K.ts to_).q.length ≤ 1000) (hv : K.v ≤ 1000000) :
    Calls Try.prog 6 #[pt kb, doArg 3 p to_] w (NumPost g (K.tick.send t p to_) w 0) :=
  do_gen h ok hk hb (.inl ⟨t1, t2, rfl⟩) hn (by omega) 3 p to_ (.inr ⟨by simp, .inl ⟨rfl, rfl⟩⟩) (fun e => by cases e) fun W cb R C => send_calls R t1 t2 hn u1 u2 hne p1 p2 hm hw hl hv hc C

theorem do_take_own (h : Rep g K w) (ok : K.Ok) {kb t p : Nat} {r : List Nat} (hk : g.k = kb) (hb : K.Best t) (t1 : 1 ≤ t) (t2 : t ≤ K.n) (hn : K.n ≤ 1000) (hc : K.c ≤ 1000000) (hq : (K.ts t).q = p :: r) (hat : (K.ps p).at_ = t) :
    Calls Try.prog 6 #[pt kb, doArg 4 0 0] w (NumPost g (K.tick.pop t p r) w p) :=
  do_gen h ok hk hb (.inl ⟨t1, t2, rfl⟩) hn hc 4 0 0 (.inr ⟨by simp, .inr (.inl ⟨rfl, rfl⟩)⟩) (fun e => by cases e) fun W cb R C => take_own R t1 t2 hn C hq hat

theorem do_take_rest (h : Rep g K w) (ok : K.Ok) {kb t : Nat} (hk : g.k = kb) (hb : K.Best t) (t1 : 1 ≤ t) (t2 : t ≤ K.n) (hn : K.n ≤ 1000) (hc : K.c ≤ 1000000) (hq : (K.ts t).q = []) :
    Calls Try.prog 6 #[pt kb, doArg 4 0 0] w (NumPost g (K.tick.rest t) w 0) :=
  do_gen h ok hk hb (.inl ⟨t1, t2, rfl⟩) hn hc 4 0 0 (.inr ⟨by simp, .inr (.inl ⟨rfl, rfl⟩)⟩) (fun e => by cases e) fun W cb R C => take_rest R t1 t2 C hq

theorem do_packet (h : Rep g K w) (ok : K.Ok) {kb t : Nat} (hk : g.k = kb) (hb : K.Best t) (t1 : 1 ≤ t) (t2 : t ≤ K.n) (hn : K.n ≤ 1000) (hc : K.c ≤ 1000000) (hm : K.m ≤ 100) (a : Int) :
    Calls Try.prog 6 #[pt kb, doArg 11 a 0] w (NumPost g (K.tick.make t) w (K.m + 1 : Nat)) :=
  do_gen h ok hk hb (.inl ⟨t1, t2, rfl⟩) hn hc 11 a 0 (.inr ⟨by simp, .inr (.inr ⟨rfl, rfl⟩)⟩) (fun e => by cases e) fun W cb R C => packet_calls R t1 t2 hm C
end
end Go.Rnd
