/-
  The console's key: what one byte does, walked.
-/
import Derived.Test.YtjdafmpkobelcaaDoorQConWalk3
set_option linter.unusedVariables false

namespace Go.Con
open Go.Own Go.RowKit Go.Proofs

section
variable {g : Ghost} {S : CS} {w w' : World}

theorem Rep.untyping (h : Rep g S w) : Rep g { S with typing := false } (w.setCell ⟨g.c, 2, none⟩ (.bool false)) := h.set_typing false

theorem run_rune (W : World) (b : UInt8) (n : Int) (hb : (b.toNat : Int) = n) (h : n < 128) : (convert 21 9 (.int .i32 n)).run Tryd.prog W = .ok (.string ⟨[b].toArray⟩) W := by
  rw [run_convert_int_string W _ _ _ _ (by rfl) Tryd.underlying9]
  have hv : Utf8.valid n = true := by unfold Utf8.valid; simp; omega
  have e : Utf8.encode n = ⟨[b].toArray⟩ := by
    unfold Utf8.encode
    simp only [hv, if_true]
    have hn : n.toNat = b.toNat := by omega
    rw [if_pos (by omega), hn]
    simp
  rw [e]

theorem LinesPost.nil {R : CS × List Ln} {g' : Ghost} (hR : R.2 = []) (h : Rep g' R.1 w') (hs : Step g g' w w') : LinesPost g w R (.returned (.slice none 0 0)) w' :=
  ⟨_, g', rfl, h, hs, by rw [hR]; exact SliceAt.nil _ _ _, fun b hb => by simp [Value.ownBlock] at hb⟩

end
end Go.Con
