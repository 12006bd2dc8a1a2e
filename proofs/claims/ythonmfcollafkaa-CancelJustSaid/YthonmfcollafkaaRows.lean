/-
  No cell of these rows narrows 'for every input' (looked for: loops, veiled, ifaces, maps, wideKeys, modest, calm, conditions, laid).
  DERIVED. THE GIVEN ROWS OF THIS SEAT. 10 by the template 'for every input the law returns true; each argument reads behind the call as it read before'; 0 by the template 'total and deterministic' (their statements: YthonmfcollafkaaTotals.lean).
  GIVEN WITH THE SEED: the statements are not yours to turn. If you find one false, say at which input.
  Laid BY PROGRAM, IN A SANDBOX (cutbox-rows.mjs): the forced cells as the released guide's own fill.sh prints them over the translation d117fcd2a8031eae… (all of the seat's roots in one cut). By AI agents, Wed Nov 11 2026. No macro, syntax, notation, axiom, sorry.
-/
import Derived.Test.YthonmfcollafkaaChecked
import GoSem.Claim
import GoSem.ClaimJoined
import GoSem.ClaimMapViews
import Derived.JoinedTies
import Derived.KernelRfl
namespace Go.Proofs.Ythonmfcollafkaa
/- THE CELL 'sum', in the pinned program and in every row, IS THE sha256 OF THE DUMP (.gsa) THAT YthonmfcollafkaaProg.lean LOADS. Nothing in Lean hashes anything: it is a label: what it is worth is what the hold of that sum in a sandbox is worth. -/
noncomputable def Try.pinned : Pinned := { name := "ythonmfcollafkaa", sum := "d117fcd2a8031eae3636b369c2171626aa06141db28c136d42d0078cfe941895", checked := Try.checked }
namespace Rows
def none {H : Type} : Left H := { results := [], args := [] }

/-- 'callboardlaw22.RouteAny': WHATEVER THE INPUT: true; the input reads as it did. -/
def routeAnySpec : ChangeSpec := { name := "routeAny", fn := fun _ => fun
  | [d1, d2, d3, d4] => { results := [.lit (.bool true)], args := [d1, d2, d3, d4] }
  | _ => none }
def routeAnyRow : OpenClaim := { program := "ythonmfcollafkaa", sum := "d117fcd2a8031eae3636b369c2171626aa06141db28c136d42d0078cfe941895", func := "callboard/callboardlaw22.RouteAny", spec := "routeAny", unfollowed := true, recurses := true, apart := false }
def RouteAnySaid : Prop := routeAnyRow.holds Try.pinned (OpenSpec.ofChange routeAnySpec)

/-- ITS FALSE NEIGHBOUR: 'it returns false'. Refute it at one input. -/
def routeAnyWrong : ChangeSpec := { name := "routeAny", fn := fun _ => fun
  | [d1, d2, d3, d4] => { results := [.lit (.bool false)], args := [d1, d2, d3, d4] }
  | _ => none }
def RouteAnyWrongFalsely : Prop := routeAnyRow.holds Try.pinned (OpenSpec.ofChange routeAnyWrong)

/-- 'callboardlaw17.GraphReached': WHATEVER THE INPUT: true; the input reads as it did. -/
def graphReachedSpec : ChangeSpec := { name := "graphReached", fn := fun _ => fun
  | [d1, d2, d3, d4] => { results := [.lit (.bool true)], args := [d1, d2, d3, d4] }
  | _ => none }
def graphReachedRow : OpenClaim := { program := "ythonmfcollafkaa", sum := "d117fcd2a8031eae3636b369c2171626aa06141db28c136d42d0078cfe941895", func := "callboard/callboardlaw17.GraphReached", spec := "graphReached", unfollowed := true, recurses := true, apart := false }
def GraphReachedSaid : Prop := graphReachedRow.holds Try.pinned (OpenSpec.ofChange graphReachedSpec)

/-- ITS FALSE NEIGHBOUR: 'it returns false'. Refute it at one input. -/
def graphReachedWrong : ChangeSpec := { name := "graphReached", fn := fun _ => fun
  | [d1, d2, d3, d4] => { results := [.lit (.bool false)], args := [d1, d2, d3, d4] }
  | _ => none }
def GraphReachedWrongFalsely : Prop := graphReachedRow.holds Try.pinned (OpenSpec.ofChange graphReachedWrong)

/-- 'callboardlaw22.RouteNames': WHATEVER THE INPUT: true; the input reads as it did. -/
def routeNamesSpec : ChangeSpec := { name := "routeNames", fn := fun _ => fun
  | [] => { results := [.lit (.bool true)], args := [] }
  | _ => none }
def routeNamesRow : OpenClaim := { program := "ythonmfcollafkaa", sum := "d117fcd2a8031eae3636b369c2171626aa06141db28c136d42d0078cfe941895", func := "callboard/callboardlaw22.RouteNames", spec := "routeNames", unfollowed := true, recurses := true, apart := false }
def RouteNamesSaid : Prop := routeNamesRow.holds Try.pinned (OpenSpec.ofChange routeNamesSpec)

/-- ITS FALSE NEIGHBOUR: 'it returns false'. Refute it at one input. -/
def routeNamesWrong : ChangeSpec := { name := "routeNames", fn := fun _ => fun
  | [] => { results := [.lit (.bool false)], args := [] }
  | _ => none }
def RouteNamesWrongFalsely : Prop := routeNamesRow.holds Try.pinned (OpenSpec.ofChange routeNamesWrong)

/-- 'callboardlaw17.GraphNames': WHATEVER THE INPUT: true; the input reads as it did. -/
def graphNamesSpec : ChangeSpec := { name := "graphNames", fn := fun _ => fun
  | [] => { results := [.lit (.bool true)], args := [] }
  | _ => none }
def graphNamesRow : OpenClaim := { program := "ythonmfcollafkaa", sum := "d117fcd2a8031eae3636b369c2171626aa06141db28c136d42d0078cfe941895", func := "callboard/callboardlaw17.GraphNames", spec := "graphNames", unfollowed := true, recurses := true, apart := false }
def GraphNamesSaid : Prop := graphNamesRow.holds Try.pinned (OpenSpec.ofChange graphNamesSpec)

/-- ITS FALSE NEIGHBOUR: 'it returns false'. Refute it at one input. -/
def graphNamesWrong : ChangeSpec := { name := "graphNames", fn := fun _ => fun
  | [] => { results := [.lit (.bool false)], args := [] }
  | _ => none }
def GraphNamesWrongFalsely : Prop := graphNamesRow.holds Try.pinned (OpenSpec.ofChange graphNamesWrong)

/-- 'callboardlaw18.ArenaTurned': WHATEVER THE INPUT: true; the input reads as it did. -/
def arenaTurnedSpec : ChangeSpec := { name := "arenaTurned", fn := fun _ => fun
  | [d1, d2, d3] => { results := [.lit (.bool true)], args := [d1, d2, d3] }
  | _ => none }
def arenaTurnedRow : OpenClaim := { program := "ythonmfcollafkaa", sum := "d117fcd2a8031eae3636b369c2171626aa06141db28c136d42d0078cfe941895", func := "callboard/callboardlaw18.ArenaTurned", spec := "arenaTurned", unfollowed := true, recurses := true, apart := false }
def ArenaTurnedSaid : Prop := arenaTurnedRow.holds Try.pinned (OpenSpec.ofChange arenaTurnedSpec)

/-- ITS FALSE NEIGHBOUR: 'it returns false'. Refute it at one input. -/
def arenaTurnedWrong : ChangeSpec := { name := "arenaTurned", fn := fun _ => fun
  | [d1, d2, d3] => { results := [.lit (.bool false)], args := [d1, d2, d3] }
  | _ => none }
def ArenaTurnedWrongFalsely : Prop := arenaTurnedRow.holds Try.pinned (OpenSpec.ofChange arenaTurnedWrong)

/-- 'callboardlaw21.CancelJust': WHATEVER THE INPUT: true; the input reads as it did. -/
def cancelJustSpec : ChangeSpec := { name := "cancelJust", fn := fun _ => fun
  | [d1, d2] => { results := [.lit (.bool true)], args := [d1, d2] }
  | _ => none }
def cancelJustRow : OpenClaim := { program := "ythonmfcollafkaa", sum := "d117fcd2a8031eae3636b369c2171626aa06141db28c136d42d0078cfe941895", func := "callboard/callboardlaw21.CancelJust", spec := "cancelJust", unfollowed := true, recurses := true, apart := false }
def CancelJustSaid : Prop := cancelJustRow.holds Try.pinned (OpenSpec.ofChange cancelJustSpec)

/-- ITS FALSE NEIGHBOUR: 'it returns false'. Refute it at one input. -/
def cancelJustWrong : ChangeSpec := { name := "cancelJust", fn := fun _ => fun
  | [d1, d2] => { results := [.lit (.bool false)], args := [d1, d2] }
  | _ => none }
def CancelJustWrongFalsely : Prop := cancelJustRow.holds Try.pinned (OpenSpec.ofChange cancelJustWrong)

/-- 'callboardlaw21.CancelRow': WHATEVER THE INPUT: true; the input reads as it did. -/
def cancelRowSpec : ChangeSpec := { name := "cancelRow", fn := fun _ => fun
  | [d1, d2, d3] => { results := [.lit (.bool true)], args := [d1, d2, d3] }
  | _ => none }
def cancelRowRow : OpenClaim := { program := "ythonmfcollafkaa", sum := "d117fcd2a8031eae3636b369c2171626aa06141db28c136d42d0078cfe941895", func := "callboard/callboardlaw21.CancelRow", spec := "cancelRow", unfollowed := true, recurses := true, apart := false }
def CancelRowSaid : Prop := cancelRowRow.holds Try.pinned (OpenSpec.ofChange cancelRowSpec)

/-- ITS FALSE NEIGHBOUR: 'it returns false'. Refute it at one input. -/
def cancelRowWrong : ChangeSpec := { name := "cancelRow", fn := fun _ => fun
  | [d1, d2, d3] => { results := [.lit (.bool false)], args := [d1, d2, d3] }
  | _ => none }
def CancelRowWrongFalsely : Prop := cancelRowRow.holds Try.pinned (OpenSpec.ofChange cancelRowWrong)

/-- 'callboardlaw21.CancelNames': WHATEVER THE INPUT: true; the input reads as it did. -/
def cancelNamesSpec : ChangeSpec := { name := "cancelNames", fn := fun _ => fun
  | [] => { results := [.lit (.bool true)], args := [] }
  | _ => none }
def cancelNamesRow : OpenClaim := { program := "ythonmfcollafkaa", sum := "d117fcd2a8031eae3636b369c2171626aa06141db28c136d42d0078cfe941895", func := "callboard/callboardlaw21.CancelNames", spec := "cancelNames", unfollowed := true, recurses := true, apart := false }
def CancelNamesSaid : Prop := cancelNamesRow.holds Try.pinned (OpenSpec.ofChange cancelNamesSpec)

/-- ITS FALSE NEIGHBOUR: 'it returns false'. Refute it at one input. -/
def cancelNamesWrong : ChangeSpec := { name := "cancelNames", fn := fun _ => fun
  | [] => { results := [.lit (.bool false)], args := [] }
  | _ => none }
def CancelNamesWrongFalsely : Prop := cancelNamesRow.holds Try.pinned (OpenSpec.ofChange cancelNamesWrong)

/-- 'callboardlaw21.CancelTells': WHATEVER THE INPUT: true; the input reads as it did. -/
def cancelTellsSpec : ChangeSpec := { name := "cancelTells", fn := fun _ => fun
  | [d1, d2, d3] => { results := [.lit (.bool true)], args := [d1, d2, d3] }
  | _ => none }
def cancelTellsRow : OpenClaim := { program := "ythonmfcollafkaa", sum := "d117fcd2a8031eae3636b369c2171626aa06141db28c136d42d0078cfe941895", func := "callboard/callboardlaw21.CancelTells", spec := "cancelTells", unfollowed := true, recurses := true, apart := false }
def CancelTellsSaid : Prop := cancelTellsRow.holds Try.pinned (OpenSpec.ofChange cancelTellsSpec)

/-- ITS FALSE NEIGHBOUR: 'it returns false'. Refute it at one input. -/
def cancelTellsWrong : ChangeSpec := { name := "cancelTells", fn := fun _ => fun
  | [d1, d2, d3] => { results := [.lit (.bool false)], args := [d1, d2, d3] }
  | _ => none }
def CancelTellsWrongFalsely : Prop := cancelTellsRow.holds Try.pinned (OpenSpec.ofChange cancelTellsWrong)

/-- 'callboardlaw21.CancelClear': WHATEVER THE INPUT: true; the input reads as it did. -/
def cancelClearSpec : ChangeSpec := { name := "cancelClear", fn := fun _ => fun
  | [d1, d2] => { results := [.lit (.bool true)], args := [d1, d2] }
  | _ => none }
def cancelClearRow : OpenClaim := { program := "ythonmfcollafkaa", sum := "d117fcd2a8031eae3636b369c2171626aa06141db28c136d42d0078cfe941895", func := "callboard/callboardlaw21.CancelClear", spec := "cancelClear", unfollowed := true, recurses := true, apart := false }
def CancelClearSaid : Prop := cancelClearRow.holds Try.pinned (OpenSpec.ofChange cancelClearSpec)

/-- ITS FALSE NEIGHBOUR: 'it returns false'. Refute it at one input. -/
def cancelClearWrong : ChangeSpec := { name := "cancelClear", fn := fun _ => fun
  | [d1, d2] => { results := [.lit (.bool false)], args := [d1, d2] }
  | _ => none }
def CancelClearWrongFalsely : Prop := cancelClearRow.holds Try.pinned (OpenSpec.ofChange cancelClearWrong)

/- THE SECOND FORM. 'bulk': how many values and letters a reading holds, each counted each time it is reached (what is shared counts as often as it is met; a slice's spare places count too). A statement '..UptoSaid' is the law's where the arguments, and the package variables that the reading takes, are together of bulk at most 1048576: NARROWER than '..Said'. Prove '..Said' where nothing that the law and all that it calls make is longer than what came in: it says more and counts as full. Else prove '..UptoSaid'. A law counts once. -/
mutual
def uptoBulk {H : Type} : DataW H → Nat
  | .lit (.string bytes) => bytes.length + 1
  | .lit _ => 1
  | .nil => 1
  | .ptr d => uptoBulk d + 1
  | .slice elems spare => uptoBulkAll elems + uptoBulkAll spare + 1
  | .agg parts => uptoBulkAll parts + 1
  | .iface _ d => uptoBulk d + 1
  | .map entries => uptoBulkEntries entries + 1
  | .held _ => 1
def uptoBulkAll {H : Type} : List (DataW H) → Nat
  | [] => 0
  | d :: r => uptoBulk d + uptoBulkAll r
def uptoBulkEntries {H : Type} : List (Lit × DataW H) → Nat
  | [] => 0
  | x :: r => uptoBulkEntry x + uptoBulkEntries r
def uptoBulkEntry {H : Type} : Lit × DataW H → Nat
  | (.string bytes, d) => bytes.length + uptoBulk d + 1
  | (_, d) => uptoBulk d + 1
 end
def uptoSmall : (H : Type) → List (DataW H) → Bool := fun _ ds => decide (uptoBulkAll ds ≤ 1048576)
def OpenSpec.upto (s : _root_.Go.ChangeSpec) : _root_.Go.OpenSpec := { _root_.Go.OpenSpec.ofChange s with cond := some uptoSmall }

/-- 'callboardlaw22.RouteAny', WHERE WHAT IT READS IS OF BULK AT MOST 1048576: true; the input reads as it did. -/
def routeAnyUptoRow : OpenClaim := { program := "ythonmfcollafkaa", sum := "d117fcd2a8031eae3636b369c2171626aa06141db28c136d42d0078cfe941895", func := "callboard/callboardlaw22.RouteAny", spec := "routeAny", unfollowed := true, recurses := true, apart := false, narrowed := true }
def RouteAnyUptoSaid : Prop := routeAnyUptoRow.holds Try.pinned (OpenSpec.upto routeAnySpec)

/-- 'callboardlaw17.GraphReached', WHERE WHAT IT READS IS OF BULK AT MOST 1048576: true; the input reads as it did. -/
def graphReachedUptoRow : OpenClaim := { program := "ythonmfcollafkaa", sum := "d117fcd2a8031eae3636b369c2171626aa06141db28c136d42d0078cfe941895", func := "callboard/callboardlaw17.GraphReached", spec := "graphReached", unfollowed := true, recurses := true, apart := false, narrowed := true }
def GraphReachedUptoSaid : Prop := graphReachedUptoRow.holds Try.pinned (OpenSpec.upto graphReachedSpec)

/-- 'callboardlaw22.RouteNames', WHERE WHAT IT READS IS OF BULK AT MOST 1048576: true; the input reads as it did. -/
def routeNamesUptoRow : OpenClaim := { program := "ythonmfcollafkaa", sum := "d117fcd2a8031eae3636b369c2171626aa06141db28c136d42d0078cfe941895", func := "callboard/callboardlaw22.RouteNames", spec := "routeNames", unfollowed := true, recurses := true, apart := false, narrowed := true }
def RouteNamesUptoSaid : Prop := routeNamesUptoRow.holds Try.pinned (OpenSpec.upto routeNamesSpec)

/-- 'callboardlaw17.GraphNames', WHERE WHAT IT READS IS OF BULK AT MOST 1048576: true; the input reads as it did. -/
def graphNamesUptoRow : OpenClaim := { program := "ythonmfcollafkaa", sum := "d117fcd2a8031eae3636b369c2171626aa06141db28c136d42d0078cfe941895", func := "callboard/callboardlaw17.GraphNames", spec := "graphNames", unfollowed := true, recurses := true, apart := false, narrowed := true }
def GraphNamesUptoSaid : Prop := graphNamesUptoRow.holds Try.pinned (OpenSpec.upto graphNamesSpec)

/-- 'callboardlaw18.ArenaTurned', WHERE WHAT IT READS IS OF BULK AT MOST 1048576: true; the input reads as it did. -/
def arenaTurnedUptoRow : OpenClaim := { program := "ythonmfcollafkaa", sum := "d117fcd2a8031eae3636b369c2171626aa06141db28c136d42d0078cfe941895", func := "callboard/callboardlaw18.ArenaTurned", spec := "arenaTurned", unfollowed := true, recurses := true, apart := false, narrowed := true }
def ArenaTurnedUptoSaid : Prop := arenaTurnedUptoRow.holds Try.pinned (OpenSpec.upto arenaTurnedSpec)

/-- 'callboardlaw21.CancelJust', WHERE WHAT IT READS IS OF BULK AT MOST 1048576: true; the input reads as it did. -/
def cancelJustUptoRow : OpenClaim := { program := "ythonmfcollafkaa", sum := "d117fcd2a8031eae3636b369c2171626aa06141db28c136d42d0078cfe941895", func := "callboard/callboardlaw21.CancelJust", spec := "cancelJust", unfollowed := true, recurses := true, apart := false, narrowed := true }
def CancelJustUptoSaid : Prop := cancelJustUptoRow.holds Try.pinned (OpenSpec.upto cancelJustSpec)

/-- 'callboardlaw21.CancelRow', WHERE WHAT IT READS IS OF BULK AT MOST 1048576: true; the input reads as it did. -/
def cancelRowUptoRow : OpenClaim := { program := "ythonmfcollafkaa", sum := "d117fcd2a8031eae3636b369c2171626aa06141db28c136d42d0078cfe941895", func := "callboard/callboardlaw21.CancelRow", spec := "cancelRow", unfollowed := true, recurses := true, apart := false, narrowed := true }
def CancelRowUptoSaid : Prop := cancelRowUptoRow.holds Try.pinned (OpenSpec.upto cancelRowSpec)

/-- 'callboardlaw21.CancelNames', WHERE WHAT IT READS IS OF BULK AT MOST 1048576: true; the input reads as it did. -/
def cancelNamesUptoRow : OpenClaim := { program := "ythonmfcollafkaa", sum := "d117fcd2a8031eae3636b369c2171626aa06141db28c136d42d0078cfe941895", func := "callboard/callboardlaw21.CancelNames", spec := "cancelNames", unfollowed := true, recurses := true, apart := false, narrowed := true }
def CancelNamesUptoSaid : Prop := cancelNamesUptoRow.holds Try.pinned (OpenSpec.upto cancelNamesSpec)

/-- 'callboardlaw21.CancelTells', WHERE WHAT IT READS IS OF BULK AT MOST 1048576: true; the input reads as it did. -/
def cancelTellsUptoRow : OpenClaim := { program := "ythonmfcollafkaa", sum := "d117fcd2a8031eae3636b369c2171626aa06141db28c136d42d0078cfe941895", func := "callboard/callboardlaw21.CancelTells", spec := "cancelTells", unfollowed := true, recurses := true, apart := false, narrowed := true }
def CancelTellsUptoSaid : Prop := cancelTellsUptoRow.holds Try.pinned (OpenSpec.upto cancelTellsSpec)

/-- 'callboardlaw21.CancelClear', WHERE WHAT IT READS IS OF BULK AT MOST 1048576: true; the input reads as it did. -/
def cancelClearUptoRow : OpenClaim := { program := "ythonmfcollafkaa", sum := "d117fcd2a8031eae3636b369c2171626aa06141db28c136d42d0078cfe941895", func := "callboard/callboardlaw21.CancelClear", spec := "cancelClear", unfollowed := true, recurses := true, apart := false, narrowed := true }
def CancelClearUptoSaid : Prop := cancelClearUptoRow.holds Try.pinned (OpenSpec.upto cancelClearSpec)

end Rows
end Go.Proofs.Ythonmfcollafkaa
