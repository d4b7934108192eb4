/-
  No cell of these rows narrows 'for every input' (looked for: loops, veiled, ifaces, maps, wideKeys, modest, calm, conditions, laid).
  DERIVED. THE GIVEN ROWS OF THIS SEAT. 4 by the template 'for every input the law returns true; each argument reads behind the call as it read before'; 0 by the template 'total and deterministic' (their statements: YtjdafmpkobelcaaTotals.lean).
  GIVEN WITH THE SEED: the statements are not yours to turn. If you find one false, say at which input.
  Laid BY PROGRAM, IN A SANDBOX (cutbox-rows.mjs): the forced cells as the released guide's own fill.sh prints them over the translation 0c1c079599185a0d… (all of the seat's roots in one cut). By AI agents, Wed Nov 11 2026. No macro, syntax, notation, axiom, sorry.
-/
import Derived.Test.YtjdafmpkobelcaaChecked
import GoSem.Claim
import GoSem.ClaimJoined
import GoSem.ClaimMapViews
import Derived.JoinedTies
import Derived.KernelRfl
namespace Go.Proofs.Ytjdafmpkobelcaa
/- THE CELL 'sum', in the pinned program and in every row, IS THE sha256 OF THE DUMP (.gsa) THAT YtjdafmpkobelcaaProg.lean LOADS. Nothing in Lean hashes anything: it is a label: what it is worth is what the hold of that sum in a sandbox is worth. -/
noncomputable def Try.pinned : Pinned := { name := "ytjdafmpkobelcaa", sum := "0c1c079599185a0dea8133d10ce0d34791260fa7b0cb773df0e3b4974c5cf232", checked := Try.checked }
namespace Rows
def none {H : Type} : Left H := { results := [], args := [] }

/-- 'bluebelllaw21.ConsoleReads': WHATEVER THE INPUT: true; the input reads as it did. -/
def consoleReadsSpec : ChangeSpec := { name := "consoleReads", fn := fun _ => fun
  | [d] => { results := [.lit (.bool true)], args := [d] }
  | _ => none }
def consoleReadsRow : OpenClaim := { program := "ytjdafmpkobelcaa", sum := "0c1c079599185a0dea8133d10ce0d34791260fa7b0cb773df0e3b4974c5cf232", func := "bluebell/bluebelllaw21.ConsoleReads", spec := "consoleReads", apart := false }
def ConsoleReadsSaid : Prop := consoleReadsRow.holds Try.pinned (OpenSpec.ofChange consoleReadsSpec)

/-- ITS FALSE NEIGHBOUR: 'it returns false'. Refute it at one input. -/
def consoleReadsWrong : ChangeSpec := { name := "consoleReads", fn := fun _ => fun
  | [d] => { results := [.lit (.bool false)], args := [d] }
  | _ => none }
def ConsoleReadsWrongFalsely : Prop := consoleReadsRow.holds Try.pinned (OpenSpec.ofChange consoleReadsWrong)

/-- 'bluebelllaw21.ConsolePieces': WHATEVER THE INPUT: true; the input reads as it did. -/
def consolePiecesSpec : ChangeSpec := { name := "consolePieces", fn := fun _ => fun
  | [d1, d2] => { results := [.lit (.bool true)], args := [d1, d2] }
  | _ => none }
def consolePiecesRow : OpenClaim := { program := "ytjdafmpkobelcaa", sum := "0c1c079599185a0dea8133d10ce0d34791260fa7b0cb773df0e3b4974c5cf232", func := "bluebell/bluebelllaw21.ConsolePieces", spec := "consolePieces", apart := false }
def ConsolePiecesSaid : Prop := consolePiecesRow.holds Try.pinned (OpenSpec.ofChange consolePiecesSpec)

/-- ITS FALSE NEIGHBOUR: 'it returns false'. Refute it at one input. -/
def consolePiecesWrong : ChangeSpec := { name := "consolePieces", fn := fun _ => fun
  | [d1, d2] => { results := [.lit (.bool false)], args := [d1, d2] }
  | _ => none }
def ConsolePiecesWrongFalsely : Prop := consolePiecesRow.holds Try.pinned (OpenSpec.ofChange consolePiecesWrong)

/-- 'bluebelllaw21.ConsoleRubs': WHATEVER THE INPUT: true; the input reads as it did. -/
def consoleRubsSpec : ChangeSpec := { name := "consoleRubs", fn := fun _ => fun
  | [d1, d2] => { results := [.lit (.bool true)], args := [d1, d2] }
  | _ => none }
def consoleRubsRow : OpenClaim := { program := "ytjdafmpkobelcaa", sum := "0c1c079599185a0dea8133d10ce0d34791260fa7b0cb773df0e3b4974c5cf232", func := "bluebell/bluebelllaw21.ConsoleRubs", spec := "consoleRubs", apart := false }
def ConsoleRubsSaid : Prop := consoleRubsRow.holds Try.pinned (OpenSpec.ofChange consoleRubsSpec)

/-- ITS FALSE NEIGHBOUR: 'it returns false'. Refute it at one input. -/
def consoleRubsWrong : ChangeSpec := { name := "consoleRubs", fn := fun _ => fun
  | [d1, d2] => { results := [.lit (.bool false)], args := [d1, d2] }
  | _ => none }
def ConsoleRubsWrongFalsely : Prop := consoleRubsRow.holds Try.pinned (OpenSpec.ofChange consoleRubsWrong)

/-- 'bluebelllaw21.ConsoleEdits': WHATEVER THE INPUT: true; the input reads as it did. -/
def consoleEditsSpec : ChangeSpec := { name := "consoleEdits", fn := fun _ => fun
  | [d] => { results := [.lit (.bool true)], args := [d] }
  | _ => none }
def consoleEditsRow : OpenClaim := { program := "ytjdafmpkobelcaa", sum := "0c1c079599185a0dea8133d10ce0d34791260fa7b0cb773df0e3b4974c5cf232", func := "bluebell/bluebelllaw21.ConsoleEdits", spec := "consoleEdits", apart := false }
def ConsoleEditsSaid : Prop := consoleEditsRow.holds Try.pinned (OpenSpec.ofChange consoleEditsSpec)

/-- ITS FALSE NEIGHBOUR: 'it returns false'. Refute it at one input. -/
def consoleEditsWrong : ChangeSpec := { name := "consoleEdits", fn := fun _ => fun
  | [d] => { results := [.lit (.bool false)], args := [d] }
  | _ => none }
def ConsoleEditsWrongFalsely : Prop := consoleEditsRow.holds Try.pinned (OpenSpec.ofChange consoleEditsWrong)

/- THE SECOND FORM. 'bulk': how many values and letters a reading holds, each counted each time it is reached (what is shared counts as often as it is met; a slice's spare places count too). A statement '..UptoSaid' is the law's where the arguments, and the package variables that the reading takes, are together of bulk at most 1048576: NARROWER than '..Said'. Prove '..Said' where nothing that the law and all that it calls make is longer than what came in: it says more and counts as full. Else prove '..UptoSaid'. A law counts once. -/
mutual
def uptoBulk {H : Type} : DataW H → Nat
  | .lit (.string bytes) => bytes.length + 1
  | .lit _ => 1
  | .nil => 1
  | .ptr d => uptoBulk d + 1
  | .slice elems spare => uptoBulkAll elems + uptoBulkAll spare + 1
  | .agg parts => uptoBulkAll parts + 1
  | .iface _ d => uptoBulk d + 1
  | .map entries => uptoBulkEntries entries + 1
  | .held _ => 1
def uptoBulkAll {H : Type} : List (DataW H) → Nat
  | [] => 0
  | d :: r => uptoBulk d + uptoBulkAll r
def uptoBulkEntries {H : Type} : List (Lit × DataW H) → Nat
  | [] => 0
  | x :: r => uptoBulkEntry x + uptoBulkEntries r
def uptoBulkEntry {H : Type} : Lit × DataW H → Nat
  | (.string bytes, d) => bytes.length + uptoBulk d + 1
  | (_, d) => uptoBulk d + 1
 end
def uptoSmall : (H : Type) → List (DataW H) → Bool := fun _ ds => decide (uptoBulkAll ds ≤ 1048576)
def OpenSpec.upto (s : _root_.Go.ChangeSpec) : _root_.Go.OpenSpec := { _root_.Go.OpenSpec.ofChange s with cond := some uptoSmall }

/-- 'bluebelllaw21.ConsoleReads', WHERE WHAT IT READS IS OF BULK AT MOST 1048576: true; the input reads as it did. -/
def consoleReadsUptoRow : OpenClaim := { program := "ytjdafmpkobelcaa", sum := "0c1c079599185a0dea8133d10ce0d34791260fa7b0cb773df0e3b4974c5cf232", func := "bluebell/bluebelllaw21.ConsoleReads", spec := "consoleReads", apart := false, narrowed := true }
def ConsoleReadsUptoSaid : Prop := consoleReadsUptoRow.holds Try.pinned (OpenSpec.upto consoleReadsSpec)

/-- 'bluebelllaw21.ConsolePieces', WHERE WHAT IT READS IS OF BULK AT MOST 1048576: true; the input reads as it did. -/
def consolePiecesUptoRow : OpenClaim := { program := "ytjdafmpkobelcaa", sum := "0c1c079599185a0dea8133d10ce0d34791260fa7b0cb773df0e3b4974c5cf232", func := "bluebell/bluebelllaw21.ConsolePieces", spec := "consolePieces", apart := false, narrowed := true }
def ConsolePiecesUptoSaid : Prop := consolePiecesUptoRow.holds Try.pinned (OpenSpec.upto consolePiecesSpec)

/-- 'bluebelllaw21.ConsoleRubs', WHERE WHAT IT READS IS OF BULK AT MOST 1048576: true; the input reads as it did. -/
def consoleRubsUptoRow : OpenClaim := { program := "ytjdafmpkobelcaa", sum := "0c1c079599185a0dea8133d10ce0d34791260fa7b0cb773df0e3b4974c5cf232", func := "bluebell/bluebelllaw21.ConsoleRubs", spec := "consoleRubs", apart := false, narrowed := true }
def ConsoleRubsUptoSaid : Prop := consoleRubsUptoRow.holds Try.pinned (OpenSpec.upto consoleRubsSpec)

/-- 'bluebelllaw21.ConsoleEdits', WHERE WHAT IT READS IS OF BULK AT MOST 1048576: true; the input reads as it did. -/
def consoleEditsUptoRow : OpenClaim := { program := "ytjdafmpkobelcaa", sum := "0c1c079599185a0dea8133d10ce0d34791260fa7b0cb773df0e3b4974c5cf232", func := "bluebell/bluebelllaw21.ConsoleEdits", spec := "consoleEdits", apart := false, narrowed := true }
def ConsoleEditsUptoSaid : Prop := consoleEditsUptoRow.holds Try.pinned (OpenSpec.upto consoleEditsSpec)

end Rows
end Go.Proofs.Ytjdafmpkobelcaa
