/-
  No cell of these rows narrows 'for every input' (looked for: loops, veiled, ifaces, maps, wideKeys, modest, calm, conditions, laid).
  DERIVED. THE GIVEN ROWS OF THIS SEAT. 7 by the template 'for every input the law returns true; each argument reads behind the call as it read before'; 0 by the template 'total and deterministic' (their statements: YtfbaejhjppikpaaTotals.lean).
  GIVEN WITH THE SEED: the statements are not yours to turn. If you find one false, say at which input.
  Laid BY PROGRAM, IN A SANDBOX (cutbox-rows.mjs): the forced cells as the released guide's own fill.sh prints them over the translation fa273e5847bb74b0… (all of the seat's roots in one cut). By AI agents, Wed Nov 11 2026. No macro, syntax, notation, axiom, sorry.
-/
import Derived.Test.YtfbaejhjppikpaaChecked
import GoSem.Claim
import GoSem.ClaimJoined
import GoSem.ClaimMapViews
import Derived.JoinedTies
import Derived.KernelRfl
namespace Go.Proofs.Ytfbaejhjppikpaa
/- THE CELL 'sum', in the pinned program and in every row, IS THE sha256 OF THE DUMP (.gsa) THAT YtfbaejhjppikpaaProg.lean LOADS. Nothing in Lean hashes anything: it is a label: what it is worth is what the hold of that sum in a sandbox is worth. -/
noncomputable def Try.pinned : Pinned := { name := "ytfbaejhjppikpaa", sum := "fa273e5847bb74b0620e693104c1c58c704027b98dde2f407abe991e297bec5f", checked := Try.checked }
namespace Rows
def none {H : Type} : Left H := { results := [], args := [] }

/-- 'callboardlaw06.LeafPlace': WHATEVER THE INPUT: true; the input reads as it did. -/
def leafPlaceSpec : ChangeSpec := { name := "leafPlace", fn := fun _ => fun
  | [d1, d2] => { results := [.lit (.bool true)], args := [d1, d2] }
  | _ => none }
def leafPlaceRow : OpenClaim := { program := "ytfbaejhjppikpaa", sum := "fa273e5847bb74b0620e693104c1c58c704027b98dde2f407abe991e297bec5f", func := "callboard/callboardlaw06.LeafPlace", spec := "leafPlace", inPlace := ["internal/bytealg.abigen_runtime_cmpstring"], unfollowed := true, recurses := true, apart := false }
def LeafPlaceSaid : Prop := leafPlaceRow.holds Try.pinned (OpenSpec.ofChange leafPlaceSpec)

/-- ITS FALSE NEIGHBOUR: 'it returns false'. Refute it at one input. -/
def leafPlaceWrong : ChangeSpec := { name := "leafPlace", fn := fun _ => fun
  | [d1, d2] => { results := [.lit (.bool false)], args := [d1, d2] }
  | _ => none }
def LeafPlaceWrongFalsely : Prop := leafPlaceRow.holds Try.pinned (OpenSpec.ofChange leafPlaceWrong)

/-- 'callboardlaw06.LeafBack': WHATEVER THE INPUT: true; the input reads as it did. -/
def leafBackSpec : ChangeSpec := { name := "leafBack", fn := fun _ => fun
  | [d1, d2] => { results := [.lit (.bool true)], args := [d1, d2] }
  | _ => none }
def leafBackRow : OpenClaim := { program := "ytfbaejhjppikpaa", sum := "fa273e5847bb74b0620e693104c1c58c704027b98dde2f407abe991e297bec5f", func := "callboard/callboardlaw06.LeafBack", spec := "leafBack", inPlace := ["internal/bytealg.abigen_runtime_cmpstring"], unfollowed := true, recurses := true, apart := false }
def LeafBackSaid : Prop := leafBackRow.holds Try.pinned (OpenSpec.ofChange leafBackSpec)

/-- ITS FALSE NEIGHBOUR: 'it returns false'. Refute it at one input. -/
def leafBackWrong : ChangeSpec := { name := "leafBack", fn := fun _ => fun
  | [d1, d2] => { results := [.lit (.bool false)], args := [d1, d2] }
  | _ => none }
def LeafBackWrongFalsely : Prop := leafBackRow.holds Try.pinned (OpenSpec.ofChange leafBackWrong)

/-- 'callboardlaw06.LeafNames': WHATEVER THE INPUT: true; the input reads as it did. -/
def leafNamesSpec : ChangeSpec := { name := "leafNames", fn := fun _ => fun
  | [] => { results := [.lit (.bool true)], args := [] }
  | _ => none }
def leafNamesRow : OpenClaim := { program := "ytfbaejhjppikpaa", sum := "fa273e5847bb74b0620e693104c1c58c704027b98dde2f407abe991e297bec5f", func := "callboard/callboardlaw06.LeafNames", spec := "leafNames", inPlace := ["internal/bytealg.abigen_runtime_cmpstring"], unfollowed := true, recurses := true, apart := false }
def LeafNamesSaid : Prop := leafNamesRow.holds Try.pinned (OpenSpec.ofChange leafNamesSpec)

/-- ITS FALSE NEIGHBOUR: 'it returns false'. Refute it at one input. -/
def leafNamesWrong : ChangeSpec := { name := "leafNames", fn := fun _ => fun
  | [] => { results := [.lit (.bool false)], args := [] }
  | _ => none }
def LeafNamesWrongFalsely : Prop := leafNamesRow.holds Try.pinned (OpenSpec.ofChange leafNamesWrong)

/-- 'callboardlaw06.LeafTells': WHATEVER THE INPUT: true; the input reads as it did. -/
def leafTellsSpec : ChangeSpec := { name := "leafTells", fn := fun _ => fun
  | [d1, d2, d3] => { results := [.lit (.bool true)], args := [d1, d2, d3] }
  | _ => none }
def leafTellsRow : OpenClaim := { program := "ytfbaejhjppikpaa", sum := "fa273e5847bb74b0620e693104c1c58c704027b98dde2f407abe991e297bec5f", func := "callboard/callboardlaw06.LeafTells", spec := "leafTells", inPlace := ["internal/bytealg.abigen_runtime_cmpstring"], unfollowed := true, recurses := true, apart := false }
def LeafTellsSaid : Prop := leafTellsRow.holds Try.pinned (OpenSpec.ofChange leafTellsSpec)

/-- ITS FALSE NEIGHBOUR: 'it returns false'. Refute it at one input. -/
def leafTellsWrong : ChangeSpec := { name := "leafTells", fn := fun _ => fun
  | [d1, d2, d3] => { results := [.lit (.bool false)], args := [d1, d2, d3] }
  | _ => none }
def LeafTellsWrongFalsely : Prop := leafTellsRow.holds Try.pinned (OpenSpec.ofChange leafTellsWrong)

/-- 'callboardlaw06.LeafKeys': WHATEVER THE INPUT: true; the input reads as it did. -/
def leafKeysSpec : ChangeSpec := { name := "leafKeys", fn := fun _ => fun
  | [d1, d2, d3] => { results := [.lit (.bool true)], args := [d1, d2, d3] }
  | _ => none }
def leafKeysRow : OpenClaim := { program := "ytfbaejhjppikpaa", sum := "fa273e5847bb74b0620e693104c1c58c704027b98dde2f407abe991e297bec5f", func := "callboard/callboardlaw06.LeafKeys", spec := "leafKeys", inPlace := ["internal/bytealg.abigen_runtime_cmpstring", "slices.overlaps[callboard/leaf.Entry]"], unfollowed := true, recurses := true, apart := false }
def LeafKeysSaid : Prop := leafKeysRow.holds Try.pinned (OpenSpec.ofChange leafKeysSpec)

/-- ITS FALSE NEIGHBOUR: 'it returns false'. Refute it at one input. -/
def leafKeysWrong : ChangeSpec := { name := "leafKeys", fn := fun _ => fun
  | [d1, d2, d3] => { results := [.lit (.bool false)], args := [d1, d2, d3] }
  | _ => none }
def LeafKeysWrongFalsely : Prop := leafKeysRow.holds Try.pinned (OpenSpec.ofChange leafKeysWrong)

/-- 'callboardlaw06.LeafSplits': WHATEVER THE INPUT: true; the input reads as it did. -/
def leafSplitsSpec : ChangeSpec := { name := "leafSplits", fn := fun _ => fun
  | [d1, d2, d3] => { results := [.lit (.bool true)], args := [d1, d2, d3] }
  | _ => none }
def leafSplitsRow : OpenClaim := { program := "ytfbaejhjppikpaa", sum := "fa273e5847bb74b0620e693104c1c58c704027b98dde2f407abe991e297bec5f", func := "callboard/callboardlaw06.LeafSplits", spec := "leafSplits", inPlace := ["internal/bytealg.abigen_runtime_cmpstring", "slices.overlaps[callboard/leaf.Entry]"], unfollowed := true, recurses := true, apart := false }
def LeafSplitsSaid : Prop := leafSplitsRow.holds Try.pinned (OpenSpec.ofChange leafSplitsSpec)

/-- ITS FALSE NEIGHBOUR: 'it returns false'. Refute it at one input. -/
def leafSplitsWrong : ChangeSpec := { name := "leafSplits", fn := fun _ => fun
  | [d1, d2, d3] => { results := [.lit (.bool false)], args := [d1, d2, d3] }
  | _ => none }
def LeafSplitsWrongFalsely : Prop := leafSplitsRow.holds Try.pinned (OpenSpec.ofChange leafSplitsWrong)

/-- 'callboardlaw06.LeafPuts': WHATEVER THE INPUT: true; the input reads as it did. -/
def leafPutsSpec : ChangeSpec := { name := "leafPuts", fn := fun _ => fun
  | [d1, d2, d3, d4] => { results := [.lit (.bool true)], args := [d1, d2, d3, d4] }
  | _ => none }
def leafPutsRow : OpenClaim := { program := "ytfbaejhjppikpaa", sum := "fa273e5847bb74b0620e693104c1c58c704027b98dde2f407abe991e297bec5f", func := "callboard/callboardlaw06.LeafPuts", spec := "leafPuts", inPlace := ["internal/bytealg.abigen_runtime_cmpstring", "slices.overlaps[callboard/leaf.Entry]"], unfollowed := true, recurses := true, apart := false }
def LeafPutsSaid : Prop := leafPutsRow.holds Try.pinned (OpenSpec.ofChange leafPutsSpec)

/-- ITS FALSE NEIGHBOUR: 'it returns false'. Refute it at one input. -/
def leafPutsWrong : ChangeSpec := { name := "leafPuts", fn := fun _ => fun
  | [d1, d2, d3, d4] => { results := [.lit (.bool false)], args := [d1, d2, d3, d4] }
  | _ => none }
def LeafPutsWrongFalsely : Prop := leafPutsRow.holds Try.pinned (OpenSpec.ofChange leafPutsWrong)

/- THE SECOND FORM. 'bulk': how many values and letters a reading holds, each counted each time it is reached (what is shared counts as often as it is met; a slice's spare places count too). A statement '..UptoSaid' is the law's where the arguments, and the package variables that the reading takes, are together of bulk at most 1048576: NARROWER than '..Said'. Prove '..Said' where nothing that the law and all that it calls make is longer than what came in: it says more and counts as full. Else prove '..UptoSaid'. A law counts once. -/
mutual
def uptoBulk {H : Type} : DataW H → Nat
  | .lit (.string bytes) => bytes.length + 1
  | .lit _ => 1
  | .nil => 1
  | .ptr d => uptoBulk d + 1
  | .slice elems spare => uptoBulkAll elems + uptoBulkAll spare + 1
  | .agg parts => uptoBulkAll parts + 1
  | .iface _ d => uptoBulk d + 1
  | .map entries => uptoBulkEntries entries + 1
  | .held _ => 1
def uptoBulkAll {H : Type} : List (DataW H) → Nat
  | [] => 0
  | d :: r => uptoBulk d + uptoBulkAll r
def uptoBulkEntries {H : Type} : List (Lit × DataW H) → Nat
  | [] => 0
  | x :: r => uptoBulkEntry x + uptoBulkEntries r
def uptoBulkEntry {H : Type} : Lit × DataW H → Nat
  | (.string bytes, d) => bytes.length + uptoBulk d + 1
  | (_, d) => uptoBulk d + 1
 end
def uptoSmall : (H : Type) → List (DataW H) → Bool := fun _ ds => decide (uptoBulkAll ds ≤ 1048576)
def OpenSpec.upto (s : _root_.Go.ChangeSpec) : _root_.Go.OpenSpec := { _root_.Go.OpenSpec.ofChange s with cond := some uptoSmall }

/-- 'callboardlaw06.LeafPlace', WHERE WHAT IT READS IS OF BULK AT MOST 1048576: true; the input reads as it did. -/
def leafPlaceUptoRow : OpenClaim := { program := "ytfbaejhjppikpaa", sum := "fa273e5847bb74b0620e693104c1c58c704027b98dde2f407abe991e297bec5f", func := "callboard/callboardlaw06.LeafPlace", spec := "leafPlace", inPlace := ["internal/bytealg.abigen_runtime_cmpstring"], unfollowed := true, recurses := true, apart := false, narrowed := true }
def LeafPlaceUptoSaid : Prop := leafPlaceUptoRow.holds Try.pinned (OpenSpec.upto leafPlaceSpec)

/-- 'callboardlaw06.LeafBack', WHERE WHAT IT READS IS OF BULK AT MOST 1048576: true; the input reads as it did. -/
def leafBackUptoRow : OpenClaim := { program := "ytfbaejhjppikpaa", sum := "fa273e5847bb74b0620e693104c1c58c704027b98dde2f407abe991e297bec5f", func := "callboard/callboardlaw06.LeafBack", spec := "leafBack", inPlace := ["internal/bytealg.abigen_runtime_cmpstring"], unfollowed := true, recurses := true, apart := false, narrowed := true }
def LeafBackUptoSaid : Prop := leafBackUptoRow.holds Try.pinned (OpenSpec.upto leafBackSpec)

/-- 'callboardlaw06.LeafNames', WHERE WHAT IT READS IS OF BULK AT MOST 1048576: true; the input reads as it did. -/
def leafNamesUptoRow : OpenClaim := { program := "ytfbaejhjppikpaa", sum := "fa273e5847bb74b0620e693104c1c58c704027b98dde2f407abe991e297bec5f", func := "callboard/callboardlaw06.LeafNames", spec := "leafNames", inPlace := ["internal/bytealg.abigen_runtime_cmpstring"], unfollowed := true, recurses := true, apart := false, narrowed := true }
def LeafNamesUptoSaid : Prop := leafNamesUptoRow.holds Try.pinned (OpenSpec.upto leafNamesSpec)

/-- 'callboardlaw06.LeafTells', WHERE WHAT IT READS IS OF BULK AT MOST 1048576: true; the input reads as it did. -/
def leafTellsUptoRow : OpenClaim := { program := "ytfbaejhjppikpaa", sum := "fa273e5847bb74b0620e693104c1c58c704027b98dde2f407abe991e297bec5f", func := "callboard/callboardlaw06.LeafTells", spec := "leafTells", inPlace := ["internal/bytealg.abigen_runtime_cmpstring"], unfollowed := true, recurses := true, apart := false, narrowed := true }
def LeafTellsUptoSaid : Prop := leafTellsUptoRow.holds Try.pinned (OpenSpec.upto leafTellsSpec)

/-- 'callboardlaw06.LeafKeys', WHERE WHAT IT READS IS OF BULK AT MOST 1048576: true; the input reads as it did. -/
def leafKeysUptoRow : OpenClaim := { program := "ytfbaejhjppikpaa", sum := "fa273e5847bb74b0620e693104c1c58c704027b98dde2f407abe991e297bec5f", func := "callboard/callboardlaw06.LeafKeys", spec := "leafKeys", inPlace := ["internal/bytealg.abigen_runtime_cmpstring", "slices.overlaps[callboard/leaf.Entry]"], unfollowed := true, recurses := true, apart := false, narrowed := true }
def LeafKeysUptoSaid : Prop := leafKeysUptoRow.holds Try.pinned (OpenSpec.upto leafKeysSpec)

/-- 'callboardlaw06.LeafSplits', WHERE WHAT IT READS IS OF BULK AT MOST 1048576: true; the input reads as it did. -/
def leafSplitsUptoRow : OpenClaim := { program := "ytfbaejhjppikpaa", sum := "fa273e5847bb74b0620e693104c1c58c704027b98dde2f407abe991e297bec5f", func := "callboard/callboardlaw06.LeafSplits", spec := "leafSplits", inPlace := ["internal/bytealg.abigen_runtime_cmpstring", "slices.overlaps[callboard/leaf.Entry]"], unfollowed := true, recurses := true, apart := false, narrowed := true }
def LeafSplitsUptoSaid : Prop := leafSplitsUptoRow.holds Try.pinned (OpenSpec.upto leafSplitsSpec)

/-- 'callboardlaw06.LeafPuts', WHERE WHAT IT READS IS OF BULK AT MOST 1048576: true; the input reads as it did. -/
def leafPutsUptoRow : OpenClaim := { program := "ytfbaejhjppikpaa", sum := "fa273e5847bb74b0620e693104c1c58c704027b98dde2f407abe991e297bec5f", func := "callboard/callboardlaw06.LeafPuts", spec := "leafPuts", inPlace := ["internal/bytealg.abigen_runtime_cmpstring", "slices.overlaps[callboard/leaf.Entry]"], unfollowed := true, recurses := true, apart := false, narrowed := true }
def LeafPutsUptoSaid : Prop := leafPutsUptoRow.holds Try.pinned (OpenSpec.upto leafPutsSpec)

end Rows
end Go.Proofs.Ytfbaejhjppikpaa
