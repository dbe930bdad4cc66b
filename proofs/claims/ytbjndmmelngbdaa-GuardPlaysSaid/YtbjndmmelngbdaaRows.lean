/-
  No cell of these rows narrows 'for every input' (looked for: loops, veiled, ifaces, maps, wideKeys, modest, calm, conditions, laid).
  DERIVED. THE GIVEN ROWS OF THIS SEAT. 4 by the template 'for every input the law returns true; each argument reads behind the call as it read before'; 0 by the template 'total and deterministic' (their statements: YtbjndmmelngbdaaTotals.lean).
  GIVEN WITH THE SEED: the statements are not yours to turn. If you find one false, say at which input.
  Laid BY PROGRAM, IN A SANDBOX (cutbox-rows.mjs): the forced cells as the released guide's own fill.sh prints them over the translation 9a415dad0ddba154… (all of the seat's roots in one cut). By AI agents, Wed Nov 11 2026. No macro, syntax, notation, axiom, sorry.
-/
import Derived.Test.YtbjndmmelngbdaaChecked
import GoSem.Claim
import GoSem.ClaimJoined
import GoSem.ClaimMapViews
import Derived.JoinedTies
import Derived.KernelRfl
namespace Go.Proofs.Ytbjndmmelngbdaa
/- THE CELL 'sum', in the pinned program and in every row, IS THE sha256 OF THE DUMP (.gsa) THAT YtbjndmmelngbdaaProg.lean LOADS. Nothing in Lean hashes anything: it is a label: what it is worth is what the hold of that sum in a sandbox is worth. -/
noncomputable def Try.pinned : Pinned := { name := "ytbjndmmelngbdaa", sum := "9a415dad0ddba154b06f9b171b0431b0ba29332e0f5c07491e0135a8e328046f", checked := Try.checked }
namespace Rows
def none {H : Type} : Left H := { results := [], args := [] }

/-- 'pentimentolaw3.GuardOthers': WHATEVER THE INPUT: true; the input reads as it did. -/
def guardOthersSpec : ChangeSpec := { name := "guardOthers", fn := fun _ => fun
  | [d1, d2] => { results := [.lit (.bool true)], args := [d1, d2] }
  | _ => none }
def guardOthersRow : OpenClaim := { program := "ytbjndmmelngbdaa", sum := "9a415dad0ddba154b06f9b171b0431b0ba29332e0f5c07491e0135a8e328046f", func := "pentimento/pentimentolaw3.GuardOthers", spec := "guardOthers", unfollowed := true, recurses := true, apart := false }
def GuardOthersSaid : Prop := guardOthersRow.holds Try.pinned (OpenSpec.ofChange guardOthersSpec)

/-- ITS FALSE NEIGHBOUR: 'it returns false'. Refute it at one input. -/
def guardOthersWrong : ChangeSpec := { name := "guardOthers", fn := fun _ => fun
  | [d1, d2] => { results := [.lit (.bool false)], args := [d1, d2] }
  | _ => none }
def GuardOthersWrongFalsely : Prop := guardOthersRow.holds Try.pinned (OpenSpec.ofChange guardOthersWrong)

/-- 'pentimentolaw3.GuardKnown': WHATEVER THE INPUT: true; the input reads as it did. -/
def guardKnownSpec : ChangeSpec := { name := "guardKnown", fn := fun _ => fun
  | [] => { results := [.lit (.bool true)], args := [] }
  | _ => none }
def guardKnownRow : OpenClaim := { program := "ytbjndmmelngbdaa", sum := "9a415dad0ddba154b06f9b171b0431b0ba29332e0f5c07491e0135a8e328046f", func := "pentimento/pentimentolaw3.GuardKnown", spec := "guardKnown", unfollowed := true, recurses := true, apart := false }
def GuardKnownSaid : Prop := guardKnownRow.holds Try.pinned (OpenSpec.ofChange guardKnownSpec)

/-- ITS FALSE NEIGHBOUR: 'it returns false'. Refute it at one input. -/
def guardKnownWrong : ChangeSpec := { name := "guardKnown", fn := fun _ => fun
  | [] => { results := [.lit (.bool false)], args := [] }
  | _ => none }
def GuardKnownWrongFalsely : Prop := guardKnownRow.holds Try.pinned (OpenSpec.ofChange guardKnownWrong)

/-- 'pentimentolaw3.GuardPlays': WHATEVER THE INPUT: true; the input reads as it did. -/
def guardPlaysSpec : ChangeSpec := { name := "guardPlays", fn := fun _ => fun
  | [d] => { results := [.lit (.bool true)], args := [d] }
  | _ => none }
def guardPlaysRow : OpenClaim := { program := "ytbjndmmelngbdaa", sum := "9a415dad0ddba154b06f9b171b0431b0ba29332e0f5c07491e0135a8e328046f", func := "pentimento/pentimentolaw3.GuardPlays", spec := "guardPlays", unfollowed := true, recurses := true, apart := false }
def GuardPlaysSaid : Prop := guardPlaysRow.holds Try.pinned (OpenSpec.ofChange guardPlaysSpec)

/-- ITS FALSE NEIGHBOUR: 'it returns false'. Refute it at one input. -/
def guardPlaysWrong : ChangeSpec := { name := "guardPlays", fn := fun _ => fun
  | [d] => { results := [.lit (.bool false)], args := [d] }
  | _ => none }
def GuardPlaysWrongFalsely : Prop := guardPlaysRow.holds Try.pinned (OpenSpec.ofChange guardPlaysWrong)

/-- 'pentimentolaw3.GuardFirst': WHATEVER THE INPUT: true; the input reads as it did. -/
def guardFirstSpec : ChangeSpec := { name := "guardFirst", fn := fun _ => fun
  | [d1, d2] => { results := [.lit (.bool true)], args := [d1, d2] }
  | _ => none }
def guardFirstRow : OpenClaim := { program := "ytbjndmmelngbdaa", sum := "9a415dad0ddba154b06f9b171b0431b0ba29332e0f5c07491e0135a8e328046f", func := "pentimento/pentimentolaw3.GuardFirst", spec := "guardFirst", unfollowed := true, recurses := true, apart := false }
def GuardFirstSaid : Prop := guardFirstRow.holds Try.pinned (OpenSpec.ofChange guardFirstSpec)

/-- ITS FALSE NEIGHBOUR: 'it returns false'. Refute it at one input. -/
def guardFirstWrong : ChangeSpec := { name := "guardFirst", fn := fun _ => fun
  | [d1, d2] => { results := [.lit (.bool false)], args := [d1, d2] }
  | _ => none }
def GuardFirstWrongFalsely : Prop := guardFirstRow.holds Try.pinned (OpenSpec.ofChange guardFirstWrong)

/- THE SECOND FORM. 'bulk': how many values and letters a reading holds, each counted each time it is reached (what is shared counts as often as it is met; a slice's spare places count too). A statement '..UptoSaid' is the law's where the arguments, and the package variables that the reading takes, are together of bulk at most 1048576: NARROWER than '..Said'. Prove '..Said' where nothing that the law and all that it calls make is longer than what came in: it says more and counts as full. Else prove '..UptoSaid'. A law counts once. -/
mutual
def uptoBulk {H : Type} : DataW H → Nat
  | .lit (.string bytes) => bytes.length + 1
  | .lit _ => 1
  | .nil => 1
  | .ptr d => uptoBulk d + 1
  | .slice elems spare => uptoBulkAll elems + uptoBulkAll spare + 1
  | .agg parts => uptoBulkAll parts + 1
  | .iface _ d => uptoBulk d + 1
  | .map entries => uptoBulkEntries entries + 1
  | .held _ => 1
def uptoBulkAll {H : Type} : List (DataW H) → Nat
  | [] => 0
  | d :: r => uptoBulk d + uptoBulkAll r
def uptoBulkEntries {H : Type} : List (Lit × DataW H) → Nat
  | [] => 0
  | x :: r => uptoBulkEntry x + uptoBulkEntries r
def uptoBulkEntry {H : Type} : Lit × DataW H → Nat
  | (.string bytes, d) => bytes.length + uptoBulk d + 1
  | (_, d) => uptoBulk d + 1
 end
def uptoSmall : (H : Type) → List (DataW H) → Bool := fun _ ds => decide (uptoBulkAll ds ≤ 1048576)
def OpenSpec.upto (s : _root_.Go.ChangeSpec) : _root_.Go.OpenSpec := { _root_.Go.OpenSpec.ofChange s with cond := some uptoSmall }

/-- 'pentimentolaw3.GuardOthers', WHERE WHAT IT READS IS OF BULK AT MOST 1048576: true; the input reads as it did. -/
def guardOthersUptoRow : OpenClaim := { program := "ytbjndmmelngbdaa", sum := "9a415dad0ddba154b06f9b171b0431b0ba29332e0f5c07491e0135a8e328046f", func := "pentimento/pentimentolaw3.GuardOthers", spec := "guardOthers", unfollowed := true, recurses := true, apart := false, narrowed := true }
def GuardOthersUptoSaid : Prop := guardOthersUptoRow.holds Try.pinned (OpenSpec.upto guardOthersSpec)

/-- 'pentimentolaw3.GuardKnown', WHERE WHAT IT READS IS OF BULK AT MOST 1048576: true; the input reads as it did. -/
def guardKnownUptoRow : OpenClaim := { program := "ytbjndmmelngbdaa", sum := "9a415dad0ddba154b06f9b171b0431b0ba29332e0f5c07491e0135a8e328046f", func := "pentimento/pentimentolaw3.GuardKnown", spec := "guardKnown", unfollowed := true, recurses := true, apart := false, narrowed := true }
def GuardKnownUptoSaid : Prop := guardKnownUptoRow.holds Try.pinned (OpenSpec.upto guardKnownSpec)

/-- 'pentimentolaw3.GuardPlays', WHERE WHAT IT READS IS OF BULK AT MOST 1048576: true; the input reads as it did. -/
def guardPlaysUptoRow : OpenClaim := { program := "ytbjndmmelngbdaa", sum := "9a415dad0ddba154b06f9b171b0431b0ba29332e0f5c07491e0135a8e328046f", func := "pentimento/pentimentolaw3.GuardPlays", spec := "guardPlays", unfollowed := true, recurses := true, apart := false, narrowed := true }
def GuardPlaysUptoSaid : Prop := guardPlaysUptoRow.holds Try.pinned (OpenSpec.upto guardPlaysSpec)

/-- 'pentimentolaw3.GuardFirst', WHERE WHAT IT READS IS OF BULK AT MOST 1048576: true; the input reads as it did. -/
def guardFirstUptoRow : OpenClaim := { program := "ytbjndmmelngbdaa", sum := "9a415dad0ddba154b06f9b171b0431b0ba29332e0f5c07491e0135a8e328046f", func := "pentimento/pentimentolaw3.GuardFirst", spec := "guardFirst", unfollowed := true, recurses := true, apart := false, narrowed := true }
def GuardFirstUptoSaid : Prop := guardFirstUptoRow.holds Try.pinned (OpenSpec.upto guardFirstSpec)

end Rows
end Go.Proofs.Ytbjndmmelngbdaa
