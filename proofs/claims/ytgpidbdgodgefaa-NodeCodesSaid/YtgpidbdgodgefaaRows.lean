/-
  No cell of these rows narrows 'for every input' (looked for: loops, veiled, ifaces, maps, wideKeys, modest, calm, conditions, laid).
  DERIVED. THE GIVEN ROWS OF THIS SEAT. 10 by the template 'for every input the law returns true; each argument reads behind the call as it read before'; 0 by the template 'total and deterministic' (their statements: YtgpidbdgodgefaaTotals.lean).
  GIVEN WITH THE SEED: the statements are not yours to turn. If you find one false, say at which input.
  Laid BY PROGRAM, IN A SANDBOX (cutbox-rows.mjs): the forced cells as the released guide's own fill.sh prints them over the translation 8329a9b831eb8018… (all of the seat's roots in one cut). By AI agents, Wed Nov 11 2026. No macro, syntax, notation, axiom, sorry.
-/
import Derived.Test.YtgpidbdgodgefaaChecked
import GoSem.Claim
import GoSem.ClaimJoined
import GoSem.ClaimMapViews
import Derived.JoinedTies
import Derived.KernelRfl
namespace Go.Proofs.Ytgpidbdgodgefaa
/- THE CELL 'sum', in the pinned program and in every row, IS THE sha256 OF THE DUMP (.gsa) THAT YtgpidbdgodgefaaProg.lean LOADS. Nothing in Lean hashes anything: it is a label: what it is worth is what the hold of that sum in a sandbox is worth. -/
noncomputable def Try.pinned : Pinned := { name := "ytgpidbdgodgefaa", sum := "8329a9b831eb8018f034e89c018683abba4b260dd8e33ee5ccae1f87fdf3f3b8", checked := Try.checked }
namespace Rows
def none {H : Type} : Left H := { results := [], args := [] }

/-- 'pentimentolaw1.OctetLays': WHATEVER THE INPUT: true; the input reads as it did. -/
def octetLaysSpec : ChangeSpec := { name := "octetLays", fn := fun _ => fun
  | [d] => { results := [.lit (.bool true)], args := [d] }
  | _ => none }
def octetLaysRow : OpenClaim := { program := "ytgpidbdgodgefaa", sum := "8329a9b831eb8018f034e89c018683abba4b260dd8e33ee5ccae1f87fdf3f3b8", func := "pentimento/pentimentolaw1.OctetLays", spec := "octetLays", inPlace := ["math.Float64bits", "math.Float64frombits"], apart := false }
def OctetLaysSaid : Prop := octetLaysRow.holds Try.pinned (OpenSpec.ofChange octetLaysSpec)

/-- ITS FALSE NEIGHBOUR: 'it returns false'. Refute it at one input. -/
def octetLaysWrong : ChangeSpec := { name := "octetLays", fn := fun _ => fun
  | [d] => { results := [.lit (.bool false)], args := [d] }
  | _ => none }
def OctetLaysWrongFalsely : Prop := octetLaysRow.holds Try.pinned (OpenSpec.ofChange octetLaysWrong)

/-- 'pentimentolaw1.OctetReads': WHATEVER THE INPUT: true; the input reads as it did. -/
def octetReadsSpec : ChangeSpec := { name := "octetReads", fn := fun _ => fun
  | [d1, d2] => { results := [.lit (.bool true)], args := [d1, d2] }
  | _ => none }
def octetReadsRow : OpenClaim := { program := "ytgpidbdgodgefaa", sum := "8329a9b831eb8018f034e89c018683abba4b260dd8e33ee5ccae1f87fdf3f3b8", func := "pentimento/pentimentolaw1.OctetReads", spec := "octetReads", inPlace := ["math.Float64bits", "math.Float64frombits"], apart := false }
def OctetReadsSaid : Prop := octetReadsRow.holds Try.pinned (OpenSpec.ofChange octetReadsSpec)

/-- ITS FALSE NEIGHBOUR: 'it returns false'. Refute it at one input. -/
def octetReadsWrong : ChangeSpec := { name := "octetReads", fn := fun _ => fun
  | [d1, d2] => { results := [.lit (.bool false)], args := [d1, d2] }
  | _ => none }
def OctetReadsWrongFalsely : Prop := octetReadsRow.holds Try.pinned (OpenSpec.ofChange octetReadsWrong)

/-- 'pentimentolaw1.OctetKnown': WHATEVER THE INPUT: true; the input reads as it did. -/
def octetKnownSpec : ChangeSpec := { name := "octetKnown", fn := fun _ => fun
  | [] => { results := [.lit (.bool true)], args := [] }
  | _ => none }
def octetKnownRow : OpenClaim := { program := "ytgpidbdgodgefaa", sum := "8329a9b831eb8018f034e89c018683abba4b260dd8e33ee5ccae1f87fdf3f3b8", func := "pentimento/pentimentolaw1.OctetKnown", spec := "octetKnown", inPlace := ["math.Float64bits", "math.Float64frombits"], apart := false }
def OctetKnownSaid : Prop := octetKnownRow.holds Try.pinned (OpenSpec.ofChange octetKnownSpec)

/-- ITS FALSE NEIGHBOUR: 'it returns false'. Refute it at one input. -/
def octetKnownWrong : ChangeSpec := { name := "octetKnown", fn := fun _ => fun
  | [] => { results := [.lit (.bool false)], args := [] }
  | _ => none }
def OctetKnownWrongFalsely : Prop := octetKnownRow.holds Try.pinned (OpenSpec.ofChange octetKnownWrong)

/-- 'pentimentolaw1.OctetSizes': WHATEVER THE INPUT: true; the input reads as it did. -/
def octetSizesSpec : ChangeSpec := { name := "octetSizes", fn := fun _ => fun
  | [d1, d2, d3, d4, d5, d6] => { results := [.lit (.bool true)], args := [d1, d2, d3, d4, d5, d6] }
  | _ => none }
def octetSizesRow : OpenClaim := { program := "ytgpidbdgodgefaa", sum := "8329a9b831eb8018f034e89c018683abba4b260dd8e33ee5ccae1f87fdf3f3b8", func := "pentimento/pentimentolaw1.OctetSizes", spec := "octetSizes", inPlace := ["math.Float64bits", "math.Float64frombits"], apart := false }
def OctetSizesSaid : Prop := octetSizesRow.holds Try.pinned (OpenSpec.ofChange octetSizesSpec)

/-- ITS FALSE NEIGHBOUR: 'it returns false'. Refute it at one input. -/
def octetSizesWrong : ChangeSpec := { name := "octetSizes", fn := fun _ => fun
  | [d1, d2, d3, d4, d5, d6] => { results := [.lit (.bool false)], args := [d1, d2, d3, d4, d5, d6] }
  | _ => none }
def OctetSizesWrongFalsely : Prop := octetSizesRow.holds Try.pinned (OpenSpec.ofChange octetSizesWrong)

/-- 'pentimentolaw1.OctetBack': WHATEVER THE INPUT: true; the input reads as it did. -/
def octetBackSpec : ChangeSpec := { name := "octetBack", fn := fun _ => fun
  | [d] => { results := [.lit (.bool true)], args := [d] }
  | _ => none }
def octetBackRow : OpenClaim := { program := "ytgpidbdgodgefaa", sum := "8329a9b831eb8018f034e89c018683abba4b260dd8e33ee5ccae1f87fdf3f3b8", func := "pentimento/pentimentolaw1.OctetBack", spec := "octetBack", inPlace := ["math.Float64bits", "math.Float64frombits"], apart := false }
def OctetBackSaid : Prop := octetBackRow.holds Try.pinned (OpenSpec.ofChange octetBackSpec)

/-- ITS FALSE NEIGHBOUR: 'it returns false'. Refute it at one input. -/
def octetBackWrong : ChangeSpec := { name := "octetBack", fn := fun _ => fun
  | [d] => { results := [.lit (.bool false)], args := [d] }
  | _ => none }
def OctetBackWrongFalsely : Prop := octetBackRow.holds Try.pinned (OpenSpec.ofChange octetBackWrong)

/-- 'pentimentolaw10.NodeSame': WHATEVER THE INPUT: true; the input reads as it did. -/
def nodeSameSpec : ChangeSpec := { name := "nodeSame", fn := fun _ => fun
  | [d1, d2, d3, d4] => { results := [.lit (.bool true)], args := [d1, d2, d3, d4] }
  | _ => none }
def nodeSameRow : OpenClaim := { program := "ytgpidbdgodgefaa", sum := "8329a9b831eb8018f034e89c018683abba4b260dd8e33ee5ccae1f87fdf3f3b8", func := "pentimento/pentimentolaw10.NodeSame", spec := "nodeSame", inPlace := ["math.Float64bits", "math.Float64frombits", "internal/bytealg.IndexByte"], apart := false }
def NodeSameSaid : Prop := nodeSameRow.holds Try.pinned (OpenSpec.ofChange nodeSameSpec)

/-- ITS FALSE NEIGHBOUR: 'it returns false'. Refute it at one input. -/
def nodeSameWrong : ChangeSpec := { name := "nodeSame", fn := fun _ => fun
  | [d1, d2, d3, d4] => { results := [.lit (.bool false)], args := [d1, d2, d3, d4] }
  | _ => none }
def NodeSameWrongFalsely : Prop := nodeSameRow.holds Try.pinned (OpenSpec.ofChange nodeSameWrong)

/-- 'pentimentolaw10.NodeCodes': WHATEVER THE INPUT: true; the input reads as it did. -/
def nodeCodesSpec : ChangeSpec := { name := "nodeCodes", fn := fun _ => fun
  | [d1, d2, d3, d4, d5, d6, d7] => { results := [.lit (.bool true)], args := [d1, d2, d3, d4, d5, d6, d7] }
  | _ => none }
def nodeCodesRow : OpenClaim := { program := "ytgpidbdgodgefaa", sum := "8329a9b831eb8018f034e89c018683abba4b260dd8e33ee5ccae1f87fdf3f3b8", func := "pentimento/pentimentolaw10.NodeCodes", spec := "nodeCodes", inPlace := ["math.Float64bits", "math.Float64frombits", "internal/bytealg.IndexByte"], apart := false }
def NodeCodesSaid : Prop := nodeCodesRow.holds Try.pinned (OpenSpec.ofChange nodeCodesSpec)

/-- ITS FALSE NEIGHBOUR: 'it returns false'. Refute it at one input. -/
def nodeCodesWrong : ChangeSpec := { name := "nodeCodes", fn := fun _ => fun
  | [d1, d2, d3, d4, d5, d6, d7] => { results := [.lit (.bool false)], args := [d1, d2, d3, d4, d5, d6, d7] }
  | _ => none }
def NodeCodesWrongFalsely : Prop := nodeCodesRow.holds Try.pinned (OpenSpec.ofChange nodeCodesWrong)

/-- 'pentimentolaw10.NodeBack': WHATEVER THE INPUT: true; the input reads as it did. -/
def nodeBackSpec : ChangeSpec := { name := "nodeBack", fn := fun _ => fun
  | [d1, d2, d3] => { results := [.lit (.bool true)], args := [d1, d2, d3] }
  | _ => none }
def nodeBackRow : OpenClaim := { program := "ytgpidbdgodgefaa", sum := "8329a9b831eb8018f034e89c018683abba4b260dd8e33ee5ccae1f87fdf3f3b8", func := "pentimento/pentimentolaw10.NodeBack", spec := "nodeBack", inPlace := ["math.Float64bits", "math.Float64frombits", "internal/bytealg.IndexByte"], apart := false }
def NodeBackSaid : Prop := nodeBackRow.holds Try.pinned (OpenSpec.ofChange nodeBackSpec)

/-- ITS FALSE NEIGHBOUR: 'it returns false'. Refute it at one input. -/
def nodeBackWrong : ChangeSpec := { name := "nodeBack", fn := fun _ => fun
  | [d1, d2, d3] => { results := [.lit (.bool false)], args := [d1, d2, d3] }
  | _ => none }
def NodeBackWrongFalsely : Prop := nodeBackRow.holds Try.pinned (OpenSpec.ofChange nodeBackWrong)

/-- 'pentimentolaw10.NodeKnown': WHATEVER THE INPUT: true; the input reads as it did. -/
def nodeKnownSpec : ChangeSpec := { name := "nodeKnown", fn := fun _ => fun
  | [] => { results := [.lit (.bool true)], args := [] }
  | _ => none }
def nodeKnownRow : OpenClaim := { program := "ytgpidbdgodgefaa", sum := "8329a9b831eb8018f034e89c018683abba4b260dd8e33ee5ccae1f87fdf3f3b8", func := "pentimento/pentimentolaw10.NodeKnown", spec := "nodeKnown", inPlace := ["math.Float64frombits", "math.Float64bits", "internal/bytealg.IndexByte"], apart := false }
def NodeKnownSaid : Prop := nodeKnownRow.holds Try.pinned (OpenSpec.ofChange nodeKnownSpec)

/-- ITS FALSE NEIGHBOUR: 'it returns false'. Refute it at one input. -/
def nodeKnownWrong : ChangeSpec := { name := "nodeKnown", fn := fun _ => fun
  | [] => { results := [.lit (.bool false)], args := [] }
  | _ => none }
def NodeKnownWrongFalsely : Prop := nodeKnownRow.holds Try.pinned (OpenSpec.ofChange nodeKnownWrong)

/-- 'pentimentolaw10.NodeTimes': WHATEVER THE INPUT: true; the input reads as it did. -/
def nodeTimesSpec : ChangeSpec := { name := "nodeTimes", fn := fun _ => fun
  | [d1, d2, d3, d4, d5] => { results := [.lit (.bool true)], args := [d1, d2, d3, d4, d5] }
  | _ => none }
def nodeTimesRow : OpenClaim := { program := "ytgpidbdgodgefaa", sum := "8329a9b831eb8018f034e89c018683abba4b260dd8e33ee5ccae1f87fdf3f3b8", func := "pentimento/pentimentolaw10.NodeTimes", spec := "nodeTimes", inPlace := ["math.Float64bits", "math.Float64frombits", "internal/bytealg.IndexByte"], apart := false }
def NodeTimesSaid : Prop := nodeTimesRow.holds Try.pinned (OpenSpec.ofChange nodeTimesSpec)

/-- ITS FALSE NEIGHBOUR: 'it returns false'. Refute it at one input. -/
def nodeTimesWrong : ChangeSpec := { name := "nodeTimes", fn := fun _ => fun
  | [d1, d2, d3, d4, d5] => { results := [.lit (.bool false)], args := [d1, d2, d3, d4, d5] }
  | _ => none }
def NodeTimesWrongFalsely : Prop := nodeTimesRow.holds Try.pinned (OpenSpec.ofChange nodeTimesWrong)

/- THE SECOND FORM. 'bulk': how many values and letters a reading holds, each counted each time it is reached (what is shared counts as often as it is met; a slice's spare places count too). A statement '..UptoSaid' is the law's where the arguments, and the package variables that the reading takes, are together of bulk at most 1048576: NARROWER than '..Said'. Prove '..Said' where nothing that the law and all that it calls make is longer than what came in: it says more and counts as full. Else prove '..UptoSaid'. A law counts once. -/
mutual
def uptoBulk {H : Type} : DataW H → Nat
  | .lit (.string bytes) => bytes.length + 1
  | .lit _ => 1
  | .nil => 1
  | .ptr d => uptoBulk d + 1
  | .slice elems spare => uptoBulkAll elems + uptoBulkAll spare + 1
  | .agg parts => uptoBulkAll parts + 1
  | .iface _ d => uptoBulk d + 1
  | .map entries => uptoBulkEntries entries + 1
  | .held _ => 1
def uptoBulkAll {H : Type} : List (DataW H) → Nat
  | [] => 0
  | d :: r => uptoBulk d + uptoBulkAll r
def uptoBulkEntries {H : Type} : List (Lit × DataW H) → Nat
  | [] => 0
  | x :: r => uptoBulkEntry x + uptoBulkEntries r
def uptoBulkEntry {H : Type} : Lit × DataW H → Nat
  | (.string bytes, d) => bytes.length + uptoBulk d + 1
  | (_, d) => uptoBulk d + 1
 end
def uptoSmall : (H : Type) → List (DataW H) → Bool := fun _ ds => decide (uptoBulkAll ds ≤ 1048576)
def OpenSpec.upto (s : _root_.Go.ChangeSpec) : _root_.Go.OpenSpec := { _root_.Go.OpenSpec.ofChange s with cond := some uptoSmall }

/-- 'pentimentolaw1.OctetLays', WHERE WHAT IT READS IS OF BULK AT MOST 1048576: true; the input reads as it did. -/
def octetLaysUptoRow : OpenClaim := { program := "ytgpidbdgodgefaa", sum := "8329a9b831eb8018f034e89c018683abba4b260dd8e33ee5ccae1f87fdf3f3b8", func := "pentimento/pentimentolaw1.OctetLays", spec := "octetLays", inPlace := ["math.Float64bits", "math.Float64frombits"], apart := false, narrowed := true }
def OctetLaysUptoSaid : Prop := octetLaysUptoRow.holds Try.pinned (OpenSpec.upto octetLaysSpec)

/-- 'pentimentolaw1.OctetReads', WHERE WHAT IT READS IS OF BULK AT MOST 1048576: true; the input reads as it did. -/
def octetReadsUptoRow : OpenClaim := { program := "ytgpidbdgodgefaa", sum := "8329a9b831eb8018f034e89c018683abba4b260dd8e33ee5ccae1f87fdf3f3b8", func := "pentimento/pentimentolaw1.OctetReads", spec := "octetReads", inPlace := ["math.Float64bits", "math.Float64frombits"], apart := false, narrowed := true }
def OctetReadsUptoSaid : Prop := octetReadsUptoRow.holds Try.pinned (OpenSpec.upto octetReadsSpec)

/-- 'pentimentolaw1.OctetKnown', WHERE WHAT IT READS IS OF BULK AT MOST 1048576: true; the input reads as it did. -/
def octetKnownUptoRow : OpenClaim := { program := "ytgpidbdgodgefaa", sum := "8329a9b831eb8018f034e89c018683abba4b260dd8e33ee5ccae1f87fdf3f3b8", func := "pentimento/pentimentolaw1.OctetKnown", spec := "octetKnown", inPlace := ["math.Float64bits", "math.Float64frombits"], apart := false, narrowed := true }
def OctetKnownUptoSaid : Prop := octetKnownUptoRow.holds Try.pinned (OpenSpec.upto octetKnownSpec)

/-- 'pentimentolaw1.OctetSizes', WHERE WHAT IT READS IS OF BULK AT MOST 1048576: true; the input reads as it did. -/
def octetSizesUptoRow : OpenClaim := { program := "ytgpidbdgodgefaa", sum := "8329a9b831eb8018f034e89c018683abba4b260dd8e33ee5ccae1f87fdf3f3b8", func := "pentimento/pentimentolaw1.OctetSizes", spec := "octetSizes", inPlace := ["math.Float64bits", "math.Float64frombits"], apart := false, narrowed := true }
def OctetSizesUptoSaid : Prop := octetSizesUptoRow.holds Try.pinned (OpenSpec.upto octetSizesSpec)

/-- 'pentimentolaw1.OctetBack', WHERE WHAT IT READS IS OF BULK AT MOST 1048576: true; the input reads as it did. -/
def octetBackUptoRow : OpenClaim := { program := "ytgpidbdgodgefaa", sum := "8329a9b831eb8018f034e89c018683abba4b260dd8e33ee5ccae1f87fdf3f3b8", func := "pentimento/pentimentolaw1.OctetBack", spec := "octetBack", inPlace := ["math.Float64bits", "math.Float64frombits"], apart := false, narrowed := true }
def OctetBackUptoSaid : Prop := octetBackUptoRow.holds Try.pinned (OpenSpec.upto octetBackSpec)

/-- 'pentimentolaw10.NodeSame', WHERE WHAT IT READS IS OF BULK AT MOST 1048576: true; the input reads as it did. -/
def nodeSameUptoRow : OpenClaim := { program := "ytgpidbdgodgefaa", sum := "8329a9b831eb8018f034e89c018683abba4b260dd8e33ee5ccae1f87fdf3f3b8", func := "pentimento/pentimentolaw10.NodeSame", spec := "nodeSame", inPlace := ["math.Float64bits", "math.Float64frombits", "internal/bytealg.IndexByte"], apart := false, narrowed := true }
def NodeSameUptoSaid : Prop := nodeSameUptoRow.holds Try.pinned (OpenSpec.upto nodeSameSpec)

/-- 'pentimentolaw10.NodeCodes', WHERE WHAT IT READS IS OF BULK AT MOST 1048576: true; the input reads as it did. -/
def nodeCodesUptoRow : OpenClaim := { program := "ytgpidbdgodgefaa", sum := "8329a9b831eb8018f034e89c018683abba4b260dd8e33ee5ccae1f87fdf3f3b8", func := "pentimento/pentimentolaw10.NodeCodes", spec := "nodeCodes", inPlace := ["math.Float64bits", "math.Float64frombits", "internal/bytealg.IndexByte"], apart := false, narrowed := true }
def NodeCodesUptoSaid : Prop := nodeCodesUptoRow.holds Try.pinned (OpenSpec.upto nodeCodesSpec)

/-- 'pentimentolaw10.NodeBack', WHERE WHAT IT READS IS OF BULK AT MOST 1048576: true; the input reads as it did. -/
def nodeBackUptoRow : OpenClaim := { program := "ytgpidbdgodgefaa", sum := "8329a9b831eb8018f034e89c018683abba4b260dd8e33ee5ccae1f87fdf3f3b8", func := "pentimento/pentimentolaw10.NodeBack", spec := "nodeBack", inPlace := ["math.Float64bits", "math.Float64frombits", "internal/bytealg.IndexByte"], apart := false, narrowed := true }
def NodeBackUptoSaid : Prop := nodeBackUptoRow.holds Try.pinned (OpenSpec.upto nodeBackSpec)

/-- 'pentimentolaw10.NodeKnown', WHERE WHAT IT READS IS OF BULK AT MOST 1048576: true; the input reads as it did. -/
def nodeKnownUptoRow : OpenClaim := { program := "ytgpidbdgodgefaa", sum := "8329a9b831eb8018f034e89c018683abba4b260dd8e33ee5ccae1f87fdf3f3b8", func := "pentimento/pentimentolaw10.NodeKnown", spec := "nodeKnown", inPlace := ["math.Float64frombits", "math.Float64bits", "internal/bytealg.IndexByte"], apart := false, narrowed := true }
def NodeKnownUptoSaid : Prop := nodeKnownUptoRow.holds Try.pinned (OpenSpec.upto nodeKnownSpec)

/-- 'pentimentolaw10.NodeTimes', WHERE WHAT IT READS IS OF BULK AT MOST 1048576: true; the input reads as it did. -/
def nodeTimesUptoRow : OpenClaim := { program := "ytgpidbdgodgefaa", sum := "8329a9b831eb8018f034e89c018683abba4b260dd8e33ee5ccae1f87fdf3f3b8", func := "pentimento/pentimentolaw10.NodeTimes", spec := "nodeTimes", inPlace := ["math.Float64bits", "math.Float64frombits", "internal/bytealg.IndexByte"], apart := false, narrowed := true }
def NodeTimesUptoSaid : Prop := nodeTimesUptoRow.holds Try.pinned (OpenSpec.upto nodeTimesSpec)

end Rows
end Go.Proofs.Ytgpidbdgodgefaa
