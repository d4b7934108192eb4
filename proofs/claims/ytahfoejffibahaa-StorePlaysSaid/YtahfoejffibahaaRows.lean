/-
  No cell of these rows narrows 'for every input' (looked for: loops, veiled, ifaces, maps, wideKeys, modest, calm, conditions, laid).
  DERIVED. THE GIVEN ROWS OF THIS SEAT. 9 by the template 'for every input the law returns true; each argument reads behind the call as it read before'; 0 by the template 'total and deterministic' (their statements: YtahfoejffibahaaTotals.lean).
  GIVEN WITH THE SEED: the statements are not yours to turn. If you find one false, say at which input.
  Laid BY PROGRAM, IN A SANDBOX (cutbox-rows.mjs): the forced cells as the released guide's own fill.sh prints them over the translation 7f2fbc3713c31aec… (all of the seat's roots in one cut). By AI agents, Wed Nov 11 2026. No macro, syntax, notation, axiom, sorry.
-/
import Derived.Test.YtahfoejffibahaaChecked
import GoSem.Claim
import GoSem.ClaimJoined
import GoSem.ClaimMapViews
import Derived.JoinedTies
import Derived.KernelRfl
namespace Go.Proofs.Ytahfoejffibahaa
/- THE CELL 'sum', in the pinned program and in every row, IS THE sha256 OF THE DUMP (.gsa) THAT YtahfoejffibahaaProg.lean LOADS. Nothing in Lean hashes anything: it is a label: what it is worth is what the hold of that sum in a sandbox is worth. -/
noncomputable def Try.pinned : Pinned := { name := "ytahfoejffibahaa", sum := "7f2fbc3713c31aecc1d027233e31df02d003cdc0202df7f0e67f3d4c8081b499", checked := Try.checked }
namespace Rows
def none {H : Type} : Left H := { results := [], args := [] }

/-- 'bluebelllaw18.StorePlays': WHATEVER THE INPUT: true; the input reads as it did. -/
def storePlaysSpec : ChangeSpec := { name := "storePlays", fn := fun _ => fun
  | [d1, d2] => { results := [.lit (.bool true)], args := [d1, d2] }
  | _ => none }
def storePlaysRow : OpenClaim := { program := "ytahfoejffibahaa", sum := "7f2fbc3713c31aecc1d027233e31df02d003cdc0202df7f0e67f3d4c8081b499", func := "bluebell/bluebelllaw18.StorePlays", spec := "storePlays", unfollowed := true, recurses := true, apart := false }
def StorePlaysSaid : Prop := storePlaysRow.holds Try.pinned (OpenSpec.ofChange storePlaysSpec)

/-- ITS FALSE NEIGHBOUR: 'it returns false'. Refute it at one input. -/
def storePlaysWrong : ChangeSpec := { name := "storePlays", fn := fun _ => fun
  | [d1, d2] => { results := [.lit (.bool false)], args := [d1, d2] }
  | _ => none }
def StorePlaysWrongFalsely : Prop := storePlaysRow.holds Try.pinned (OpenSpec.ofChange storePlaysWrong)

/-- 'bluebelllaw18.StoreCovers': WHATEVER THE INPUT: true; the input reads as it did. -/
def storeCoversSpec : ChangeSpec := { name := "storeCovers", fn := fun _ => fun
  | [d1, d2] => { results := [.lit (.bool true)], args := [d1, d2] }
  | _ => none }
def storeCoversRow : OpenClaim := { program := "ytahfoejffibahaa", sum := "7f2fbc3713c31aecc1d027233e31df02d003cdc0202df7f0e67f3d4c8081b499", func := "bluebell/bluebelllaw18.StoreCovers", spec := "storeCovers", unfollowed := true, recurses := true, apart := false }
def StoreCoversSaid : Prop := storeCoversRow.holds Try.pinned (OpenSpec.ofChange storeCoversSpec)

/-- ITS FALSE NEIGHBOUR: 'it returns false'. Refute it at one input. -/
def storeCoversWrong : ChangeSpec := { name := "storeCovers", fn := fun _ => fun
  | [d1, d2] => { results := [.lit (.bool false)], args := [d1, d2] }
  | _ => none }
def StoreCoversWrongFalsely : Prop := storeCoversRow.holds Try.pinned (OpenSpec.ofChange storeCoversWrong)

/-- 'bluebelllaw18.StoreKeeps': WHATEVER THE INPUT: true; the input reads as it did. -/
def storeKeepsSpec : ChangeSpec := { name := "storeKeeps", fn := fun _ => fun
  | [d1, d2] => { results := [.lit (.bool true)], args := [d1, d2] }
  | _ => none }
def storeKeepsRow : OpenClaim := { program := "ytahfoejffibahaa", sum := "7f2fbc3713c31aecc1d027233e31df02d003cdc0202df7f0e67f3d4c8081b499", func := "bluebell/bluebelllaw18.StoreKeeps", spec := "storeKeeps", unfollowed := true, recurses := true, apart := false }
def StoreKeepsSaid : Prop := storeKeepsRow.holds Try.pinned (OpenSpec.ofChange storeKeepsSpec)

/-- ITS FALSE NEIGHBOUR: 'it returns false'. Refute it at one input. -/
def storeKeepsWrong : ChangeSpec := { name := "storeKeeps", fn := fun _ => fun
  | [d1, d2] => { results := [.lit (.bool false)], args := [d1, d2] }
  | _ => none }
def StoreKeepsWrongFalsely : Prop := storeKeepsRow.holds Try.pinned (OpenSpec.ofChange storeKeepsWrong)

/-- 'bluebelllaw18.StoreGrows': WHATEVER THE INPUT: true; the input reads as it did. -/
def storeGrowsSpec : ChangeSpec := { name := "storeGrows", fn := fun _ => fun
  | [d1, d2, d3] => { results := [.lit (.bool true)], args := [d1, d2, d3] }
  | _ => none }
def storeGrowsRow : OpenClaim := { program := "ytahfoejffibahaa", sum := "7f2fbc3713c31aecc1d027233e31df02d003cdc0202df7f0e67f3d4c8081b499", func := "bluebell/bluebelllaw18.StoreGrows", spec := "storeGrows", unfollowed := true, recurses := true, apart := false }
def StoreGrowsSaid : Prop := storeGrowsRow.holds Try.pinned (OpenSpec.ofChange storeGrowsSpec)

/-- ITS FALSE NEIGHBOUR: 'it returns false'. Refute it at one input. -/
def storeGrowsWrong : ChangeSpec := { name := "storeGrows", fn := fun _ => fun
  | [d1, d2, d3] => { results := [.lit (.bool false)], args := [d1, d2, d3] }
  | _ => none }
def StoreGrowsWrongFalsely : Prop := storeGrowsRow.holds Try.pinned (OpenSpec.ofChange storeGrowsWrong)

/-- 'bluebelllaw18.StoreNil': WHATEVER THE INPUT: true; the input reads as it did. -/
def storeNilSpec : ChangeSpec := { name := "storeNil", fn := fun _ => fun
  | [d1, d2] => { results := [.lit (.bool true)], args := [d1, d2] }
  | _ => none }
def storeNilRow : OpenClaim := { program := "ytahfoejffibahaa", sum := "7f2fbc3713c31aecc1d027233e31df02d003cdc0202df7f0e67f3d4c8081b499", func := "bluebell/bluebelllaw18.StoreNil", spec := "storeNil", unfollowed := true, recurses := true, apart := false }
def StoreNilSaid : Prop := storeNilRow.holds Try.pinned (OpenSpec.ofChange storeNilSpec)

/-- ITS FALSE NEIGHBOUR: 'it returns false'. Refute it at one input. -/
def storeNilWrong : ChangeSpec := { name := "storeNil", fn := fun _ => fun
  | [d1, d2] => { results := [.lit (.bool false)], args := [d1, d2] }
  | _ => none }
def StoreNilWrongFalsely : Prop := storeNilRow.holds Try.pinned (OpenSpec.ofChange storeNilWrong)

/-- 'bluebelllaw18.StoreRestores': WHATEVER THE INPUT: true; the input reads as it did. -/
def storeRestoresSpec : ChangeSpec := { name := "storeRestores", fn := fun _ => fun
  | [d] => { results := [.lit (.bool true)], args := [d] }
  | _ => none }
def storeRestoresRow : OpenClaim := { program := "ytahfoejffibahaa", sum := "7f2fbc3713c31aecc1d027233e31df02d003cdc0202df7f0e67f3d4c8081b499", func := "bluebell/bluebelllaw18.StoreRestores", spec := "storeRestores", unfollowed := true, recurses := true, apart := false }
def StoreRestoresSaid : Prop := storeRestoresRow.holds Try.pinned (OpenSpec.ofChange storeRestoresSpec)

/-- ITS FALSE NEIGHBOUR: 'it returns false'. Refute it at one input. -/
def storeRestoresWrong : ChangeSpec := { name := "storeRestores", fn := fun _ => fun
  | [d] => { results := [.lit (.bool false)], args := [d] }
  | _ => none }
def StoreRestoresWrongFalsely : Prop := storeRestoresRow.holds Try.pinned (OpenSpec.ofChange storeRestoresWrong)

/-- 'bluebelllaw18.StoreBack': WHATEVER THE INPUT: true; the input reads as it did. -/
def storeBackSpec : ChangeSpec := { name := "storeBack", fn := fun _ => fun
  | [d1, d2] => { results := [.lit (.bool true)], args := [d1, d2] }
  | _ => none }
def storeBackRow : OpenClaim := { program := "ytahfoejffibahaa", sum := "7f2fbc3713c31aecc1d027233e31df02d003cdc0202df7f0e67f3d4c8081b499", func := "bluebell/bluebelllaw18.StoreBack", spec := "storeBack", unfollowed := true, recurses := true, apart := false }
def StoreBackSaid : Prop := storeBackRow.holds Try.pinned (OpenSpec.ofChange storeBackSpec)

/-- ITS FALSE NEIGHBOUR: 'it returns false'. Refute it at one input. -/
def storeBackWrong : ChangeSpec := { name := "storeBack", fn := fun _ => fun
  | [d1, d2] => { results := [.lit (.bool false)], args := [d1, d2] }
  | _ => none }
def StoreBackWrongFalsely : Prop := storeBackRow.holds Try.pinned (OpenSpec.ofChange storeBackWrong)

/-- 'bluebelllaw18.StoreDoes': WHATEVER THE INPUT: true; the input reads as it did. -/
def storeDoesSpec : ChangeSpec := { name := "storeDoes", fn := fun _ => fun
  | [d1, d2] => { results := [.lit (.bool true)], args := [d1, d2] }
  | _ => none }
def storeDoesRow : OpenClaim := { program := "ytahfoejffibahaa", sum := "7f2fbc3713c31aecc1d027233e31df02d003cdc0202df7f0e67f3d4c8081b499", func := "bluebell/bluebelllaw18.StoreDoes", spec := "storeDoes", unfollowed := true, recurses := true, apart := false }
def StoreDoesSaid : Prop := storeDoesRow.holds Try.pinned (OpenSpec.ofChange storeDoesSpec)

/-- ITS FALSE NEIGHBOUR: 'it returns false'. Refute it at one input. -/
def storeDoesWrong : ChangeSpec := { name := "storeDoes", fn := fun _ => fun
  | [d1, d2] => { results := [.lit (.bool false)], args := [d1, d2] }
  | _ => none }
def StoreDoesWrongFalsely : Prop := storeDoesRow.holds Try.pinned (OpenSpec.ofChange storeDoesWrong)

/-- 'bluebelltop.TopStores': WHATEVER THE INPUT: true; the input reads as it did. -/
def topStoresSpec : ChangeSpec := { name := "topStores", fn := fun _ => fun
  | [d1, d2] => { results := [.lit (.bool true)], args := [d1, d2] }
  | _ => none }
def topStoresRow : OpenClaim := { program := "ytahfoejffibahaa", sum := "7f2fbc3713c31aecc1d027233e31df02d003cdc0202df7f0e67f3d4c8081b499", func := "bluebell/bluebelltop.TopStores", spec := "topStores", unfollowed := true, recurses := true, apart := false }
def TopStoresSaid : Prop := topStoresRow.holds Try.pinned (OpenSpec.ofChange topStoresSpec)

/-- ITS FALSE NEIGHBOUR: 'it returns false'. Refute it at one input. -/
def topStoresWrong : ChangeSpec := { name := "topStores", fn := fun _ => fun
  | [d1, d2] => { results := [.lit (.bool false)], args := [d1, d2] }
  | _ => none }
def TopStoresWrongFalsely : Prop := topStoresRow.holds Try.pinned (OpenSpec.ofChange topStoresWrong)

/- THE SECOND FORM. 'bulk': how many values and letters a reading holds, each counted each time it is reached (what is shared counts as often as it is met; a slice's spare places count too). A statement '..UptoSaid' is the law's where the arguments, and the package variables that the reading takes, are together of bulk at most 1048576: NARROWER than '..Said'. Prove '..Said' where nothing that the law and all that it calls make is longer than what came in: it says more and counts as full. Else prove '..UptoSaid'. A law counts once. -/
mutual
def uptoBulk {H : Type} : DataW H → Nat
  | .lit (.string bytes) => bytes.length + 1
  | .lit _ => 1
  | .nil => 1
  | .ptr d => uptoBulk d + 1
  | .slice elems spare => uptoBulkAll elems + uptoBulkAll spare + 1
  | .agg parts => uptoBulkAll parts + 1
  | .iface _ d => uptoBulk d + 1
  | .map entries => uptoBulkEntries entries + 1
  | .held _ => 1
def uptoBulkAll {H : Type} : List (DataW H) → Nat
  | [] => 0
  | d :: r => uptoBulk d + uptoBulkAll r
def uptoBulkEntries {H : Type} : List (Lit × DataW H) → Nat
  | [] => 0
  | x :: r => uptoBulkEntry x + uptoBulkEntries r
def uptoBulkEntry {H : Type} : Lit × DataW H → Nat
  | (.string bytes, d) => bytes.length + uptoBulk d + 1
  | (_, d) => uptoBulk d + 1
 end
def uptoSmall : (H : Type) → List (DataW H) → Bool := fun _ ds => decide (uptoBulkAll ds ≤ 1048576)
def OpenSpec.upto (s : _root_.Go.ChangeSpec) : _root_.Go.OpenSpec := { _root_.Go.OpenSpec.ofChange s with cond := some uptoSmall }

/-- 'bluebelllaw18.StorePlays', WHERE WHAT IT READS IS OF BULK AT MOST 1048576: true; the input reads as it did. -/
def storePlaysUptoRow : OpenClaim := { program := "ytahfoejffibahaa", sum := "7f2fbc3713c31aecc1d027233e31df02d003cdc0202df7f0e67f3d4c8081b499", func := "bluebell/bluebelllaw18.StorePlays", spec := "storePlays", unfollowed := true, recurses := true, apart := false, narrowed := true }
def StorePlaysUptoSaid : Prop := storePlaysUptoRow.holds Try.pinned (OpenSpec.upto storePlaysSpec)

/-- 'bluebelllaw18.StoreCovers', WHERE WHAT IT READS IS OF BULK AT MOST 1048576: true; the input reads as it did. -/
def storeCoversUptoRow : OpenClaim := { program := "ytahfoejffibahaa", sum := "7f2fbc3713c31aecc1d027233e31df02d003cdc0202df7f0e67f3d4c8081b499", func := "bluebell/bluebelllaw18.StoreCovers", spec := "storeCovers", unfollowed := true, recurses := true, apart := false, narrowed := true }
def StoreCoversUptoSaid : Prop := storeCoversUptoRow.holds Try.pinned (OpenSpec.upto storeCoversSpec)

/-- 'bluebelllaw18.StoreKeeps', WHERE WHAT IT READS IS OF BULK AT MOST 1048576: true; the input reads as it did. -/
def storeKeepsUptoRow : OpenClaim := { program := "ytahfoejffibahaa", sum := "7f2fbc3713c31aecc1d027233e31df02d003cdc0202df7f0e67f3d4c8081b499", func := "bluebell/bluebelllaw18.StoreKeeps", spec := "storeKeeps", unfollowed := true, recurses := true, apart := false, narrowed := true }
def StoreKeepsUptoSaid : Prop := storeKeepsUptoRow.holds Try.pinned (OpenSpec.upto storeKeepsSpec)

/-- 'bluebelllaw18.StoreGrows', WHERE WHAT IT READS IS OF BULK AT MOST 1048576: true; the input reads as it did. -/
def storeGrowsUptoRow : OpenClaim := { program := "ytahfoejffibahaa", sum := "7f2fbc3713c31aecc1d027233e31df02d003cdc0202df7f0e67f3d4c8081b499", func := "bluebell/bluebelllaw18.StoreGrows", spec := "storeGrows", unfollowed := true, recurses := true, apart := false, narrowed := true }
def StoreGrowsUptoSaid : Prop := storeGrowsUptoRow.holds Try.pinned (OpenSpec.upto storeGrowsSpec)

/-- 'bluebelllaw18.StoreNil', WHERE WHAT IT READS IS OF BULK AT MOST 1048576: true; the input reads as it did. -/
def storeNilUptoRow : OpenClaim := { program := "ytahfoejffibahaa", sum := "7f2fbc3713c31aecc1d027233e31df02d003cdc0202df7f0e67f3d4c8081b499", func := "bluebell/bluebelllaw18.StoreNil", spec := "storeNil", unfollowed := true, recurses := true, apart := false, narrowed := true }
def StoreNilUptoSaid : Prop := storeNilUptoRow.holds Try.pinned (OpenSpec.upto storeNilSpec)

/-- 'bluebelllaw18.StoreRestores', WHERE WHAT IT READS IS OF BULK AT MOST 1048576: true; the input reads as it did. -/
def storeRestoresUptoRow : OpenClaim := { program := "ytahfoejffibahaa", sum := "7f2fbc3713c31aecc1d027233e31df02d003cdc0202df7f0e67f3d4c8081b499", func := "bluebell/bluebelllaw18.StoreRestores", spec := "storeRestores", unfollowed := true, recurses := true, apart := false, narrowed := true }
def StoreRestoresUptoSaid : Prop := storeRestoresUptoRow.holds Try.pinned (OpenSpec.upto storeRestoresSpec)

/-- 'bluebelllaw18.StoreBack', WHERE WHAT IT READS IS OF BULK AT MOST 1048576: true; the input reads as it did. -/
def storeBackUptoRow : OpenClaim := { program := "ytahfoejffibahaa", sum := "7f2fbc3713c31aecc1d027233e31df02d003cdc0202df7f0e67f3d4c8081b499", func := "bluebell/bluebelllaw18.StoreBack", spec := "storeBack", unfollowed := true, recurses := true, apart := false, narrowed := true }
def StoreBackUptoSaid : Prop := storeBackUptoRow.holds Try.pinned (OpenSpec.upto storeBackSpec)

/-- 'bluebelllaw18.StoreDoes', WHERE WHAT IT READS IS OF BULK AT MOST 1048576: true; the input reads as it did. -/
def storeDoesUptoRow : OpenClaim := { program := "ytahfoejffibahaa", sum := "7f2fbc3713c31aecc1d027233e31df02d003cdc0202df7f0e67f3d4c8081b499", func := "bluebell/bluebelllaw18.StoreDoes", spec := "storeDoes", unfollowed := true, recurses := true, apart := false, narrowed := true }
def StoreDoesUptoSaid : Prop := storeDoesUptoRow.holds Try.pinned (OpenSpec.upto storeDoesSpec)

/-- 'bluebelltop.TopStores', WHERE WHAT IT READS IS OF BULK AT MOST 1048576: true; the input reads as it did. -/
def topStoresUptoRow : OpenClaim := { program := "ytahfoejffibahaa", sum := "7f2fbc3713c31aecc1d027233e31df02d003cdc0202df7f0e67f3d4c8081b499", func := "bluebell/bluebelltop.TopStores", spec := "topStores", unfollowed := true, recurses := true, apart := false, narrowed := true }
def TopStoresUptoSaid : Prop := topStoresUptoRow.holds Try.pinned (OpenSpec.upto topStoresSpec)

end Rows
end Go.Proofs.Ytahfoejffibahaa
