/-
  How streams lie in memory: the struct, its four maps, files, handles, pipes; which of the heap's blocks are its own (tags).
-/
import Derived.Test.YtipjapijadgihaaGreatDoorQStrResolve
set_option linter.unusedVariables false

namespace Go.Str
open Go.Own Go.RowKit Go.Proofs

def bcells (b : Bytes) : List Value := b.map fun (x : UInt8) => Value.int .u8 (x.toNat : Int)
@[simp] theorem bcells_length (b : Bytes) : (bcells b).length = b.length := by simp [bcells]
theorem bcells_append (a b : Bytes) : bcells (a ++ b) = bcells a ++ bcells b := by simp [bcells]
theorem bcells_take (b : Bytes) (n : Nat) : (bcells b).take n = bcells (b.take n) := by simp [bcells]
theorem bcells_drop (b : Bytes) (n : Nat) : (bcells b).drop n = bcells (b.drop n) := by simp [bcells]
theorem bcells_one (b : Bytes) : ∀ u ∈ bcells b, u.oneCell' = true := by
  intro u hu
  obtain ⟨x, -, rfl⟩ := List.mem_map.1 hu
  rfl

def SliceT (ρ : Tags) (t : Tag) (w : World) (v : Value) (xs : List Value) : Prop := SliceAt w 5 1 v xs ∧ ∀ b, v.ownBlock = some b → ρ b = t

/-- A handle; a pipe; streams, as pure things. -/
inductive Hd where
  | rd (path b : Bytes)
  | wr (path b : Bytes)
  | en (name : Bytes) (read : Bool)
structure Pp where
  b : Bytes
  wrote : Bool
  writing : Bool
  read : Bool
  reading : Bool
structure SS where
  files : Bytes → Option Bytes
  pipes : Bytes → Option Pp
  assigns : Bytes → Option Bytes
  handles : Int → Option Hd
  last : Nat

structure Gh where
  s : Nat
  fm : Nat
  pm : Nat
  am : Nat
  hm : Nat
  hb : Int → Nat
  pb : Bytes → Nat
  fv : Bytes → Value
  ρ : Tags

def kf (g : Gh) (F : Bytes → Option Bytes) : ByteArray → Option Value := fun k => (F k.data.toList).map fun _ => g.fv k.data.toList
def kp (g : Gh) (P : Bytes → Option Pp) : ByteArray → Option Value := fun k => (P k.data.toList).map fun _ => pt (g.pb k.data.toList)
def ka (A : Bytes → Option Bytes) : ByteArray → Option Value := fun k => (A k.data.toList).map fun t => .string (bs t)
def hval (g : Gh) (h : Int) : Hd → Value
  | .rd _ _ => .iface 131 (pt (g.hb h))
  | .wr _ _ => .iface 90 (pt (g.hb h))
  | .en _ _ => .iface 100 (pt (g.hb h))
def kh (g : Gh) (H : Int → Option Hd) : Int → Option Value := fun h => (H h).map (hval g h)

def HdAt (g : Gh) (w : World) (h : Int) : Hd → Prop
  | .rd path b => ∃ v, w.heap[g.hb h]? = some (.cells #[.string (bs path), v, .int .i64 20000] 132 (0, 0)) ∧ SliceT g.ρ (4, 0) w v (bcells b)
  | .wr path b => ∃ v, w.heap[g.hb h]? = some (.cells #[.string (bs path), v, .int .i64 20000] 95 (0, 0)) ∧ SliceT g.ρ (3, h) w v (bcells b)
  | .en name read => w.heap[g.hb h]? = some (.cells #[.string (bs name), pt (g.pb name), .bool read] 104 (0, 0))

structure Base (g : Gh) (last : Nat) (w : World) : Prop where
  sb : w.heap[g.s]? = some (.cells #[.map (some g.fm), .map (some g.pm), .map (some g.am), .map (some g.hm), .int .i64 last] 80 (0, 0))
  ts : g.ρ g.s = (1, 0)
  tf : g.ρ g.fm = (1, 1)
  tp : g.ρ g.pm = (1, 2)
  ta : g.ρ g.am = (1, 3)
  th : g.ρ g.hm = (1, 4)
  fresh : ∀ k, w.heap.size ≤ k → (g.ρ k).1 = 0
  env : Env w
  e0 : (g.ρ 0).1 = 0
structure FilesAt (g : Gh) (F : Bytes → Option Bytes) (w : World) : Prop where
  m : MapST w g.fm (kf g F)
  file : ∀ p b, F p = some b → SliceT g.ρ (4, 0) w (g.fv p) (bcells b)
structure PipesAt (g : Gh) (P : Bytes → Option Pp) (w : World) : Prop where
  m : MapST w g.pm (kp g P)
  pipe : ∀ p x, P p = some x → g.ρ (g.pb p) = (5, 0) ∧ ∃ v, w.heap[g.pb p]? = some (.cells #[v, .int .i64 64, .bool x.wrote, .bool x.writing, .bool x.read, .bool x.reading] 106 (0, 0)) ∧ SliceT g.ρ (6, 0) w v (bcells x.b)
  one : ∀ p q x y, P p = some x → P q = some y → p = q
structure HandlesAt (g : Gh) (H : Int → Option Hd) (last : Nat) (w : World) : Prop where
  m : MapS w g.hm (kh g H)
  hd : ∀ h x, H h = some x → g.ρ (g.hb h) = (2, h) ∧ HdAt g w h x ∧ 1 ≤ h ∧ h ≤ last

structure Rep (g : Gh) (S : SS) (w : World) : Prop where
  base : Base g S.last w
  files : FilesAt g S.files w
  pipes : PipesAt g S.pipes w
  assigns : MapST w g.am (ka S.assigns)
  handles : HandlesAt g S.handles S.last w
  ends : ∀ h name r, S.handles h = some (.en name r) → ∃ x, S.pipes name = some x

/-- What a call on streams leaves. -/
structure Step (g g' : Gh) (w w' : World) : Prop where
  turn : Turn (fun k => (g.ρ k).1 ≠ 0) w w'
  tags : ∀ k, k < w.heap.size → ((g'.ρ k).1 = 0 ↔ (g.ρ k).1 = 0)
  s : g'.s = g.s
theorem Step.refl (g : Gh) (w : World) : Step g g w w := ⟨Turn.refl _ _, fun _ _ => Iff.rfl, rfl⟩
theorem Step.trans {g g' g'' : Gh} {w w' w'' : World} (h : Step g g' w w') (k : Step g' g'' w' w'') : Step g g'' w w'' := by
  have hs := h.turn.size
  refine ⟨⟨k.turn.os.trans h.turn.os, k.turn.tape.trans h.turn.tape, k.turn.output.trans h.turn.output, Nat.le_trans hs k.turn.size, fun i hi ho => ?_⟩, fun i hi => (k.tags i (by omega)).trans (h.tags i hi), k.s.trans h.s⟩
  rw [k.turn.block i (by omega) (fun e => ho fun e' => e ((h.tags i hi).2 e'))]
  exact h.turn.block i hi ho
theorem Step.fresh (g : Gh) {w w' : World} (h : Turn (fun _ => False) w w') : Step g g w w' := ⟨h.mono fun _ _ hh => hh.elim, fun _ _ => Iff.rfl, rfl⟩

/-- Blocks from m to n - 1 get the tag t. -/
def retag (ρ : Tags) (m n : Nat) (t : Tag) : Tags := fun k => if m ≤ k ∧ k < n then t else ρ k
theorem retag_old (ρ : Tags) {m n : Nat} (t : Tag) {k : Nat} (h : k < m) : retag ρ m n t k = ρ k := by unfold retag; rw [if_neg (by omega)]
theorem retag_new (ρ : Tags) {m n : Nat} (t : Tag) {k : Nat} (h : m ≤ k) (h' : k < n) : retag ρ m n t k = t := by unfold retag; rw [if_pos ⟨h, h'⟩]
theorem retag_fresh {ρ : Tags} {m n : Nat} {t : Tag} {k : Nat} (h : n ≤ k) : retag ρ m n t k = ρ k := by unfold retag; rw [if_neg (by omega)]

/-- But for blocks whose tags are of D all is as it was, and bears the tag that it bore. -/
structure Same (g g' : Gh) (w w' : World) (D : Tag → Prop) : Prop where
  blk : ∀ k, k < w.heap.size → ¬ D (g.ρ k) → w'.heap[k]? = w.heap[k]?
  tag : ∀ k, k < w.heap.size → ¬ D (g.ρ k) → g'.ρ k = g.ρ k

section
variable {g g' : Gh} {w w' : World} {D : Tag → Prop}

theorem SliceT.same {t : Tag} {v : Value} {xs : List Value} (h : SliceT g.ρ t w v xs) (hs : Same g g' w w' D) (ht : ¬ D t) : SliceT g'.ρ t w' v xs :=
  ⟨h.1.keep fun k hk => hs.blk k (h.1.lt k hk) (by rw [h.2 k hk]; exact ht), fun k hk => (hs.tag k (h.1.lt k hk) (by rw [h.2 k hk]; exact ht)).trans (h.2 k hk)⟩
theorem SliceT.nil (ρ : Tags) (t : Tag) (w : World) : SliceT ρ t w (.slice none 0 0) [] := ⟨SliceAt.nil w _ _, fun b hb => by simp [Value.ownBlock] at hb⟩

theorem Base.lt {last : Nat} (h : Base g last w) {k : Nat} (hk : (g.ρ k).1 ≠ 0) : k < w.heap.size := by
  rcases Nat.lt_or_ge k w.heap.size with h' | h'
  · exact h'
  · exact absurd (h.fresh k h') hk
theorem Base.env_lt {last : Nat} (h : Base g last w) : 0 < w.heap.size := by
  obtain ⟨m, hm⟩ := h.env
  exact World.block_lt_of_cell? w _ hm

/-- The struct stands. -/
theorem Base.same {last : Nat} (h : Base g last w) (hs : Same g g' w w' D) (h0 : ¬ D (1, 0)) (ht : ∀ k, k < w.heap.size → (g.ρ k).1 = 1 → g'.ρ k = g.ρ k) (hz : ∀ t, t.1 = 0 → ¬ D t) (hf : ∀ k, w'.heap.size ≤ k → (g'.ρ k).1 = 0)
    (e : g'.s = g.s ∧ g'.fm = g.fm ∧ g'.pm = g.pm ∧ g'.am = g.am ∧ g'.hm = g.hm) : Base g' last w' := by
  obtain ⟨e1, e2, e3, e4, e5⟩ := e
  have tg : ∀ {b : Nat} {i : Int}, g.ρ b = (1, i) → g'.ρ b = (1, i) := fun {b i} hb => (ht b (h.lt (by rw [hb]; simp)) (by rw [hb])).trans hb
  have b0 := hs.blk 0 h.env_lt (hz _ h.e0)
  refine ⟨?_, by rw [e1]; exact tg h.ts, by rw [e2]; exact tg h.tf, by rw [e3]; exact tg h.tp, by rw [e4]; exact tg h.ta, by rw [e5]; exact tg h.th, hf, ?_, ?_⟩
  · rw [e1, e2, e3, e4, e5, hs.blk g.s (heap_lt h.sb) (by rw [h.ts]; exact h0)]
    exact h.sb
  · obtain ⟨m, hm⟩ := h.env
    exact ⟨m, by rw [← hm]; simp only [World.cell?, b0]⟩
  · rw [hs.tag 0 h.env_lt (hz _ h.e0)]
    exact h.e0

theorem FilesAt.same {F : Bytes → Option Bytes} (h : FilesAt g F w) (hs : Same g g' w w' D) (ht : g.ρ g.fm = (1, 1)) (h1 : ¬ D (1, 1)) (h4 : ¬ D (4, 0)) (e : g'.fm = g.fm) (ev : g'.fv = g.fv) : FilesAt g' F w' := by
  refine ⟨?_, fun p b hp => by rw [ev]; exact (h.file p b hp).same hs h4⟩
  have : kf g' F = kf g F := by unfold kf; rw [ev]
  rw [this, e]
  exact h.m.keep (hs.blk _ h.m.lt (by rw [ht]; exact h1))

theorem PipesAt.same {P : Bytes → Option Pp} (h : PipesAt g P w) (hs : Same g g' w w' D) (ht : g.ρ g.pm = (1, 2)) (h1 : ¬ D (1, 2)) (h5 : ¬ D (5, 0)) (h6 : ¬ D (6, 0)) (e : g'.pm = g.pm) (ev : g'.pb = g.pb) : PipesAt g' P w' := by
  refine ⟨?_, fun p x hp => ?_, h.one⟩
  · have : kp g' P = kp g P := by unfold kp; rw [ev]
    rw [this, e]
    exact h.m.keep (hs.blk _ h.m.lt (by rw [ht]; exact h1))
  · obtain ⟨t, v, hb, hv⟩ := h.pipe p x hp
    have hlt := heap_lt hb
    rw [ev]
    exact ⟨(hs.tag _ hlt (by rw [t]; exact h5)).trans t, v, by rw [hs.blk _ hlt (by rw [t]; exact h5)]; exact hb, hv.same hs h6⟩

theorem assigns_same {A : Bytes → Option Bytes} (h : MapST w g.am (ka A)) (hs : Same g g' w w' D) (ht : g.ρ g.am = (1, 3)) (h1 : ¬ D (1, 3)) (e : g'.am = g.am) : MapST w' g'.am (ka A) := by
  rw [e]
  exact h.keep (hs.blk _ h.lt (by rw [ht]; exact h1))

theorem HdAt.same {h : Int} {x : Hd} (hx : HdAt g w h x) (hs : Same g g' w w' D) (ht : g.ρ (g.hb h) = (2, h)) (h2 : ¬ D (2, h)) (h3 : ¬ D (3, h)) (h4 : ¬ D (4, 0)) (e : g'.hb h = g.hb h) (ev : ∀ name r, x = .en name r → g'.pb name = g.pb name) : HdAt g' w' h x := by
  cases x with
  | rd path b =>
    obtain ⟨v, hb, hv⟩ := hx
    exact ⟨v, by rw [e, hs.blk _ (heap_lt hb) (by rw [ht]; exact h2)]; exact hb, hv.same hs h4⟩
  | wr path b =>
    obtain ⟨v, hb, hv⟩ := hx
    exact ⟨v, by rw [e, hs.blk _ (heap_lt hb) (by rw [ht]; exact h2)]; exact hb, hv.same hs h3⟩
  | en name read =>
    have hb : w.heap[g.hb h]? = some (.cells #[.string (bs name), pt (g.pb name), .bool read] 104 (0, 0)) := hx
    show w'.heap[g'.hb h]? = some (.cells #[.string (bs name), pt (g'.pb name), .bool read] 104 (0, 0))
    rw [e, ev name read rfl, hs.blk _ (heap_lt hb) (by rw [ht]; exact h2)]
    exact hb

theorem HdAt.lt {h : Int} {x : Hd} (hx : HdAt g w h x) : g.hb h < w.heap.size := by
  cases x with
  | rd path b => obtain ⟨v, hb, -⟩ := hx; exact heap_lt hb
  | wr path b => obtain ⟨v, hb, -⟩ := hx; exact heap_lt hb
  | en name read => exact heap_lt (show w.heap[g.hb h]? = some _ from hx)

theorem HandlesAt.same {H : Int → Option Hd} {last : Nat} (h : HandlesAt g H last w) (hs : Same g g' w w' D) (ht : g.ρ g.hm = (1, 4)) (h1 : ¬ D (1, 4)) (h2 : ∀ i, H i ≠ none → ¬ D (2, i) ∧ ¬ D (3, i)) (h4 : ¬ D (4, 0))
    (e : g'.hm = g.hm) (ev : ∀ i, H i ≠ none → g'.hb i = g.hb i) (ep : ∀ i name r, H i = some (.en name r) → g'.pb name = g.pb name) : HandlesAt g' H last w' := by
  refine ⟨?_, fun i x hx => ?_⟩
  · have : kh g' H = kh g H := by
      funext i
      unfold kh
      cases hi : H i with
      | none => rfl
      | some x =>
        simp only [Option.map_some]
        cases x <;> simp only [hval, ev i (by rw [hi]; simp)]
    rw [this, e]
    exact h.m.keep (hs.blk _ h.m.lt (by rw [ht]; exact h1))
  · obtain ⟨t, hd, hl⟩ := h.hd i x hx
    have hne : H i ≠ none := by rw [hx]; simp
    obtain ⟨d2, d3⟩ := h2 i hne
    exact ⟨by rw [ev i hne, hs.tag _ hd.lt (by rw [t]; exact d2)]; exact t, hd.same hs t d2 d3 h4 (ev i hne) (fun name r he => ep i name r (by rw [hx, he])), hl⟩

variable {S : SS}
/-- Nothing of the streams' own has turned. -/
theorem Rep.keep {T : Nat → Prop} (h : Rep g S w) (ht : Turn T w w') (hT : ∀ k, k < w.heap.size → T k → (g.ρ k).1 = 0) (hE : ¬ T 0) : Rep g S w' := by
  have hs : Same g g w w' (fun t => t.1 = 0) := ⟨fun k hk hd => ht.block k hk fun e => hd (hT k hk e), fun _ _ _ => rfl⟩
  refine ⟨⟨?_, h.base.ts, h.base.tf, h.base.tp, h.base.ta, h.base.th, fun k hk => h.base.fresh k (by have := ht.size; omega), h.base.env.turn ht hE, h.base.e0⟩, h.files.same hs h.base.tf (by simp) (by simp) rfl rfl, h.pipes.same hs h.base.tp (by simp) (by simp) (by simp) rfl rfl,
    assigns_same h.assigns hs h.base.ta (by simp) rfl, h.handles.same hs h.base.th (by simp) (fun i _ => ⟨by simp, by simp⟩) (by simp) rfl (fun _ _ => rfl) (fun _ _ _ _ => rfl), h.ends⟩
  rw [hs.blk g.s (heap_lt h.base.sb) (by rw [h.base.ts]; simp)]
  exact h.base.sb
theorem Rep.new (h : Rep g S w) (ht : Turn (fun _ => False) w w') : Rep g S w' := h.keep ht (fun _ _ e => e.elim) (fun e => e)
end
end Go.Str
