/-
  NARROWER THAN 'FOR EVERY INPUT', by the rows' own cells (each row's printed sentence says how): NameBelow: laid · NameKnown: laid · NameTells: laid · NamePaths: laid · WalkKnown: laid · WalkHops: laid · RenameKnown: laid · WalkTells: laid · WalkPlain: laid · WalkDots: laid · RenamePairs: laid · RenameTells: laid · RenameMoves: laid.
  DERIVED. THE GIVEN ROWS OF THIS SEAT. 13 by the template 'for every input the law returns true; each argument reads behind the call as it read before'; 0 by the template 'total and deterministic' (their statements: YtgpidbdgodgefaaDoorTotals.lean).
  GIVEN WITH THE SEED: the statements are not yours to turn. If you find one false, say at which input.
  Laid BY PROGRAM, IN A SANDBOX (cutbox-rows.mjs): the forced cells as the released guide's own fill.sh prints them over the translation b07f87b469fddad7… (all of the seat's roots in one cut). By AI agents, Wed Nov 11 2026. No macro, syntax, notation, axiom, sorry.
-/
import Derived.Test.YtgpidbdgodgefaaDoorChecked
import GoSem.PinnedTables
import GoSem.Claim
import GoSem.ClaimJoined
import GoSem.ClaimMapViews
import Derived.JoinedTies
import Derived.KernelRfl
namespace Go.Proofs.YtgpidbdgodgefaaDoor
/- THE CELL 'sum', in the pinned program and in every row, IS THE sha256 OF THE DUMP (.gsa) THAT YtgpidbdgodgefaaDoorProg.lean LOADS. Nothing in Lean hashes anything: it is a label: what it is worth is what the hold of that sum in a sandbox is worth. -/
noncomputable def Tryd.pinned : Pinned := { name := "ytgpidbdgodgefaadoor", sum := "b07f87b469fddad7bf64a01b8eac5de927ebeb61fca5c2cfc697de2b69ecf990", checked := Tryd.checked }
namespace Rows
def none {H : Type} : Left H := { results := [], args := [] }

/- WHAT THE LISTED PACKAGE-LEVEL VARIABLES READ AS WHEN THE CALL BEGINS. Each datum BY PROGRAM (the guide's laid-datum.mjs) off the statement by which the dump's own 'gosem.cut.vars' lays the variable. In a bare row this is a premise. The card (YtgpidbdgodgefaaDoorCards.lean) ties it to the program's text. -/
def laid_unicode_utf8_acceptRanges {H : Type} : DataW H := .agg [.agg [.lit (.int .u8 128), .lit (.int .u8 191)], .agg [.lit (.int .u8 160), .lit (.int .u8 191)], .agg [.lit (.int .u8 128), .lit (.int .u8 159)], .agg [.lit (.int .u8 144), .lit (.int .u8 191)], .agg [.lit (.int .u8 128), .lit (.int .u8 143)], .agg [.lit (.int .u8 0), .lit (.int .u8 0)], .agg [.lit (.int .u8 0), .lit (.int .u8 0)], .agg [.lit (.int .u8 0), .lit (.int .u8 0)], .agg [.lit (.int .u8 0), .lit (.int .u8 0)], .agg [.lit (.int .u8 0), .lit (.int .u8 0)], .agg [.lit (.int .u8 0), .lit (.int .u8 0)], .agg [.lit (.int .u8 0), .lit (.int .u8 0)], .agg [.lit (.int .u8 0), .lit (.int .u8 0)], .agg [.lit (.int .u8 0), .lit (.int .u8 0)], .agg [.lit (.int .u8 0), .lit (.int .u8 0)], .agg [.lit (.int .u8 0), .lit (.int .u8 0)]]
/-- One of Go's own tables, pinned by name: the form's constant. -/
def laid_unicode_utf8_first : DataW Unit := Go.Pinned.utf8First

/-- 'pentimentolaw9.NameBelow': WHATEVER THE INPUT: true; the input reads as it did. -/
def nameBelowSpec : ChangeSpec := { name := "nameBelow", fn := fun _ => fun
  | [d1, d2, d3, d4] => { results := [.lit (.bool true)], args := [d1, d2, d3, d4] }
  | _ => none }
def nameBelowRow : OpenClaim := { program := "ytgpidbdgodgefaadoor", sum := "b07f87b469fddad7bf64a01b8eac5de927ebeb61fca5c2cfc697de2b69ecf990", func := "pentimento/pentimentolaw9.NameBelow", spec := "nameBelow", inPlace := ["internal/bytealg.IndexByteString", "internal/bytealg.CountString", "internal/bytealg.IndexString"], named := ["unicode/utf8.first", "unicode/utf8.acceptRanges", "internal/bytealg.MaxLen"], apart := false, laid := [("unicode/utf8.acceptRanges", laid_unicode_utf8_acceptRanges), ("unicode/utf8.first", laid_unicode_utf8_first)] }
def NameBelowSaid : Prop := nameBelowRow.holds Tryd.pinned (OpenSpec.ofChange nameBelowSpec)

/-- ITS FALSE NEIGHBOUR: 'it returns false'. Refute it at one input. -/
def nameBelowWrong : ChangeSpec := { name := "nameBelow", fn := fun _ => fun
  | [d1, d2, d3, d4] => { results := [.lit (.bool false)], args := [d1, d2, d3, d4] }
  | _ => none }
def NameBelowWrongFalsely : Prop := nameBelowRow.holds Tryd.pinned (OpenSpec.ofChange nameBelowWrong)

/-- 'pentimentolaw9.NameKnown': WHATEVER THE INPUT: true; the input reads as it did. -/
def nameKnownSpec : ChangeSpec := { name := "nameKnown", fn := fun _ => fun
  | [] => { results := [.lit (.bool true)], args := [] }
  | _ => none }
def nameKnownRow : OpenClaim := { program := "ytgpidbdgodgefaadoor", sum := "b07f87b469fddad7bf64a01b8eac5de927ebeb61fca5c2cfc697de2b69ecf990", func := "pentimento/pentimentolaw9.NameKnown", spec := "nameKnown", inPlace := ["internal/bytealg.IndexByteString", "internal/bytealg.CountString", "internal/bytealg.IndexString"], named := ["unicode/utf8.first", "unicode/utf8.acceptRanges", "internal/bytealg.MaxLen"], apart := false, laid := [("unicode/utf8.acceptRanges", laid_unicode_utf8_acceptRanges), ("unicode/utf8.first", laid_unicode_utf8_first)] }
def NameKnownSaid : Prop := nameKnownRow.holds Tryd.pinned (OpenSpec.ofChange nameKnownSpec)

/-- ITS FALSE NEIGHBOUR: 'it returns false'. Refute it at one input. -/
def nameKnownWrong : ChangeSpec := { name := "nameKnown", fn := fun _ => fun
  | [] => { results := [.lit (.bool false)], args := [] }
  | _ => none }
def NameKnownWrongFalsely : Prop := nameKnownRow.holds Tryd.pinned (OpenSpec.ofChange nameKnownWrong)

/-- 'pentimentolaw9.NameTells': WHATEVER THE INPUT: true; the input reads as it did. -/
def nameTellsSpec : ChangeSpec := { name := "nameTells", fn := fun _ => fun
  | [d1, d2, d3, d4] => { results := [.lit (.bool true)], args := [d1, d2, d3, d4] }
  | _ => none }
def nameTellsRow : OpenClaim := { program := "ytgpidbdgodgefaadoor", sum := "b07f87b469fddad7bf64a01b8eac5de927ebeb61fca5c2cfc697de2b69ecf990", func := "pentimento/pentimentolaw9.NameTells", spec := "nameTells", inPlace := ["internal/bytealg.IndexByteString", "internal/bytealg.CountString", "internal/bytealg.IndexString"], named := ["unicode/utf8.first", "unicode/utf8.acceptRanges", "internal/bytealg.MaxLen"], apart := false, laid := [("unicode/utf8.acceptRanges", laid_unicode_utf8_acceptRanges), ("unicode/utf8.first", laid_unicode_utf8_first)] }
def NameTellsSaid : Prop := nameTellsRow.holds Tryd.pinned (OpenSpec.ofChange nameTellsSpec)

/-- ITS FALSE NEIGHBOUR: 'it returns false'. Refute it at one input. -/
def nameTellsWrong : ChangeSpec := { name := "nameTells", fn := fun _ => fun
  | [d1, d2, d3, d4] => { results := [.lit (.bool false)], args := [d1, d2, d3, d4] }
  | _ => none }
def NameTellsWrongFalsely : Prop := nameTellsRow.holds Tryd.pinned (OpenSpec.ofChange nameTellsWrong)

/-- 'pentimentolaw9.NamePaths': WHATEVER THE INPUT: true; the input reads as it did. -/
def namePathsSpec : ChangeSpec := { name := "namePaths", fn := fun _ => fun
  | [d1, d2] => { results := [.lit (.bool true)], args := [d1, d2] }
  | _ => none }
def namePathsRow : OpenClaim := { program := "ytgpidbdgodgefaadoor", sum := "b07f87b469fddad7bf64a01b8eac5de927ebeb61fca5c2cfc697de2b69ecf990", func := "pentimento/pentimentolaw9.NamePaths", spec := "namePaths", inPlace := ["internal/bytealg.IndexByteString", "internal/bytealg.CountString", "internal/bytealg.IndexString"], named := ["unicode/utf8.first", "unicode/utf8.acceptRanges", "internal/bytealg.MaxLen"], apart := false, laid := [("unicode/utf8.acceptRanges", laid_unicode_utf8_acceptRanges), ("unicode/utf8.first", laid_unicode_utf8_first)] }
def NamePathsSaid : Prop := namePathsRow.holds Tryd.pinned (OpenSpec.ofChange namePathsSpec)

/-- ITS FALSE NEIGHBOUR: 'it returns false'. Refute it at one input. -/
def namePathsWrong : ChangeSpec := { name := "namePaths", fn := fun _ => fun
  | [d1, d2] => { results := [.lit (.bool false)], args := [d1, d2] }
  | _ => none }
def NamePathsWrongFalsely : Prop := namePathsRow.holds Tryd.pinned (OpenSpec.ofChange namePathsWrong)

/-- 'pentimentolaw15.WalkKnown': WHATEVER THE INPUT: true; the input reads as it did. -/
def walkKnownSpec : ChangeSpec := { name := "walkKnown", fn := fun _ => fun
  | [] => { results := [.lit (.bool true)], args := [] }
  | _ => none }
def walkKnownRow : OpenClaim := { program := "ytgpidbdgodgefaadoor", sum := "b07f87b469fddad7bf64a01b8eac5de927ebeb61fca5c2cfc697de2b69ecf990", func := "pentimento/pentimentolaw15.WalkKnown", spec := "walkKnown", inPlace := ["internal/bytealg.IndexByteString", "internal/bytealg.CountString", "internal/bytealg.IndexString", "internal/bytealg.abigen_runtime_cmpstring"], unfollowed := true, recurses := true, named := ["unicode/utf8.first", "unicode/utf8.acceptRanges", "internal/bytealg.MaxLen"], apart := false, laid := [("unicode/utf8.acceptRanges", laid_unicode_utf8_acceptRanges), ("unicode/utf8.first", laid_unicode_utf8_first)] }
def WalkKnownSaid : Prop := walkKnownRow.holds Tryd.pinned (OpenSpec.ofChange walkKnownSpec)

/-- ITS FALSE NEIGHBOUR: 'it returns false'. Refute it at one input. -/
def walkKnownWrong : ChangeSpec := { name := "walkKnown", fn := fun _ => fun
  | [] => { results := [.lit (.bool false)], args := [] }
  | _ => none }
def WalkKnownWrongFalsely : Prop := walkKnownRow.holds Tryd.pinned (OpenSpec.ofChange walkKnownWrong)

/-- 'pentimentolaw15.WalkHops': WHATEVER THE INPUT: true; the input reads as it did. -/
def walkHopsSpec : ChangeSpec := { name := "walkHops", fn := fun _ => fun
  | [d1, d2, d3] => { results := [.lit (.bool true)], args := [d1, d2, d3] }
  | _ => none }
def walkHopsRow : OpenClaim := { program := "ytgpidbdgodgefaadoor", sum := "b07f87b469fddad7bf64a01b8eac5de927ebeb61fca5c2cfc697de2b69ecf990", func := "pentimento/pentimentolaw15.WalkHops", spec := "walkHops", inPlace := ["internal/bytealg.IndexByteString", "internal/bytealg.CountString", "internal/bytealg.IndexString", "internal/bytealg.abigen_runtime_cmpstring"], unfollowed := true, recurses := true, named := ["unicode/utf8.first", "unicode/utf8.acceptRanges", "internal/bytealg.MaxLen"], apart := false, laid := [("unicode/utf8.acceptRanges", laid_unicode_utf8_acceptRanges), ("unicode/utf8.first", laid_unicode_utf8_first)] }
def WalkHopsSaid : Prop := walkHopsRow.holds Tryd.pinned (OpenSpec.ofChange walkHopsSpec)

/-- ITS FALSE NEIGHBOUR: 'it returns false'. Refute it at one input. -/
def walkHopsWrong : ChangeSpec := { name := "walkHops", fn := fun _ => fun
  | [d1, d2, d3] => { results := [.lit (.bool false)], args := [d1, d2, d3] }
  | _ => none }
def WalkHopsWrongFalsely : Prop := walkHopsRow.holds Tryd.pinned (OpenSpec.ofChange walkHopsWrong)

/-- 'pentimentolaw18.RenameKnown': WHATEVER THE INPUT: true; the input reads as it did. -/
def renameKnownSpec : ChangeSpec := { name := "renameKnown", fn := fun _ => fun
  | [] => { results := [.lit (.bool true)], args := [] }
  | _ => none }
def renameKnownRow : OpenClaim := { program := "ytgpidbdgodgefaadoor", sum := "b07f87b469fddad7bf64a01b8eac5de927ebeb61fca5c2cfc697de2b69ecf990", func := "pentimento/pentimentolaw18.RenameKnown", spec := "renameKnown", inPlace := ["internal/bytealg.CountString", "internal/bytealg.IndexByteString", "internal/bytealg.IndexString", "math.Float64bits", "math.Float64frombits", "internal/bytealg.IndexByte", "internal/bytealg.abigen_runtime_cmpstring"], named := ["unicode/utf8.first", "unicode/utf8.acceptRanges", "internal/bytealg.MaxLen"], apart := false, laid := [("unicode/utf8.acceptRanges", laid_unicode_utf8_acceptRanges), ("unicode/utf8.first", laid_unicode_utf8_first)] }
def RenameKnownSaid : Prop := renameKnownRow.holds Tryd.pinned (OpenSpec.ofChange renameKnownSpec)

/-- ITS FALSE NEIGHBOUR: 'it returns false'. Refute it at one input. -/
def renameKnownWrong : ChangeSpec := { name := "renameKnown", fn := fun _ => fun
  | [] => { results := [.lit (.bool false)], args := [] }
  | _ => none }
def RenameKnownWrongFalsely : Prop := renameKnownRow.holds Tryd.pinned (OpenSpec.ofChange renameKnownWrong)

/-- 'pentimentolaw15.WalkTells': WHATEVER THE INPUT: true; the input reads as it did. -/
def walkTellsSpec : ChangeSpec := { name := "walkTells", fn := fun _ => fun
  | [d1, d2, d3, d4, d5] => { results := [.lit (.bool true)], args := [d1, d2, d3, d4, d5] }
  | _ => none }
def walkTellsRow : OpenClaim := { program := "ytgpidbdgodgefaadoor", sum := "b07f87b469fddad7bf64a01b8eac5de927ebeb61fca5c2cfc697de2b69ecf990", func := "pentimento/pentimentolaw15.WalkTells", spec := "walkTells", inPlace := ["math.Float64bits", "math.Float64frombits", "internal/bytealg.IndexByteString", "internal/bytealg.CountString", "internal/bytealg.IndexString", "internal/bytealg.abigen_runtime_cmpstring"], unfollowed := true, recurses := true, named := ["unicode/utf8.first", "unicode/utf8.acceptRanges", "internal/bytealg.MaxLen"], apart := false, laid := [("unicode/utf8.acceptRanges", laid_unicode_utf8_acceptRanges), ("unicode/utf8.first", laid_unicode_utf8_first)] }
def WalkTellsSaid : Prop := walkTellsRow.holds Tryd.pinned (OpenSpec.ofChange walkTellsSpec)

/-- ITS FALSE NEIGHBOUR: 'it returns false'. Refute it at one input. -/
def walkTellsWrong : ChangeSpec := { name := "walkTells", fn := fun _ => fun
  | [d1, d2, d3, d4, d5] => { results := [.lit (.bool false)], args := [d1, d2, d3, d4, d5] }
  | _ => none }
def WalkTellsWrongFalsely : Prop := walkTellsRow.holds Tryd.pinned (OpenSpec.ofChange walkTellsWrong)

/-- 'pentimentolaw15.WalkPlain': WHATEVER THE INPUT: true; the input reads as it did. -/
def walkPlainSpec : ChangeSpec := { name := "walkPlain", fn := fun _ => fun
  | [d1, d2, d3, d4] => { results := [.lit (.bool true)], args := [d1, d2, d3, d4] }
  | _ => none }
def walkPlainRow : OpenClaim := { program := "ytgpidbdgodgefaadoor", sum := "b07f87b469fddad7bf64a01b8eac5de927ebeb61fca5c2cfc697de2b69ecf990", func := "pentimento/pentimentolaw15.WalkPlain", spec := "walkPlain", inPlace := ["math.Float64bits", "math.Float64frombits", "internal/bytealg.IndexByteString", "internal/bytealg.CountString", "internal/bytealg.IndexString", "internal/bytealg.abigen_runtime_cmpstring"], unfollowed := true, recurses := true, named := ["unicode/utf8.first", "unicode/utf8.acceptRanges", "internal/bytealg.MaxLen"], apart := false, laid := [("unicode/utf8.acceptRanges", laid_unicode_utf8_acceptRanges), ("unicode/utf8.first", laid_unicode_utf8_first)] }
def WalkPlainSaid : Prop := walkPlainRow.holds Tryd.pinned (OpenSpec.ofChange walkPlainSpec)

/-- ITS FALSE NEIGHBOUR: 'it returns false'. Refute it at one input. -/
def walkPlainWrong : ChangeSpec := { name := "walkPlain", fn := fun _ => fun
  | [d1, d2, d3, d4] => { results := [.lit (.bool false)], args := [d1, d2, d3, d4] }
  | _ => none }
def WalkPlainWrongFalsely : Prop := walkPlainRow.holds Tryd.pinned (OpenSpec.ofChange walkPlainWrong)

/-- 'pentimentolaw15.WalkDots': WHATEVER THE INPUT: true; the input reads as it did. -/
def walkDotsSpec : ChangeSpec := { name := "walkDots", fn := fun _ => fun
  | [d1, d2, d3, d4] => { results := [.lit (.bool true)], args := [d1, d2, d3, d4] }
  | _ => none }
def walkDotsRow : OpenClaim := { program := "ytgpidbdgodgefaadoor", sum := "b07f87b469fddad7bf64a01b8eac5de927ebeb61fca5c2cfc697de2b69ecf990", func := "pentimento/pentimentolaw15.WalkDots", spec := "walkDots", inPlace := ["math.Float64bits", "math.Float64frombits", "internal/bytealg.IndexByteString", "internal/bytealg.CountString", "internal/bytealg.IndexString", "internal/bytealg.abigen_runtime_cmpstring"], unfollowed := true, recurses := true, named := ["unicode/utf8.first", "unicode/utf8.acceptRanges", "internal/bytealg.MaxLen"], apart := false, laid := [("unicode/utf8.acceptRanges", laid_unicode_utf8_acceptRanges), ("unicode/utf8.first", laid_unicode_utf8_first)] }
def WalkDotsSaid : Prop := walkDotsRow.holds Tryd.pinned (OpenSpec.ofChange walkDotsSpec)

/-- ITS FALSE NEIGHBOUR: 'it returns false'. Refute it at one input. -/
def walkDotsWrong : ChangeSpec := { name := "walkDots", fn := fun _ => fun
  | [d1, d2, d3, d4] => { results := [.lit (.bool false)], args := [d1, d2, d3, d4] }
  | _ => none }
def WalkDotsWrongFalsely : Prop := walkDotsRow.holds Tryd.pinned (OpenSpec.ofChange walkDotsWrong)

/-- 'pentimentolaw18.RenamePairs': WHATEVER THE INPUT: true; the input reads as it did. -/
def renamePairsSpec : ChangeSpec := { name := "renamePairs", fn := fun _ => fun
  | [d1, d2] => { results := [.lit (.bool true)], args := [d1, d2] }
  | _ => none }
def renamePairsRow : OpenClaim := { program := "ytgpidbdgodgefaadoor", sum := "b07f87b469fddad7bf64a01b8eac5de927ebeb61fca5c2cfc697de2b69ecf990", func := "pentimento/pentimentolaw18.RenamePairs", spec := "renamePairs", inPlace := ["math.Float64bits", "math.Float64frombits", "internal/bytealg.CountString", "internal/bytealg.IndexByteString", "internal/bytealg.IndexString", "internal/bytealg.IndexByte", "internal/bytealg.abigen_runtime_cmpstring"], named := ["unicode/utf8.first", "unicode/utf8.acceptRanges", "internal/bytealg.MaxLen"], apart := false, laid := [("unicode/utf8.acceptRanges", laid_unicode_utf8_acceptRanges), ("unicode/utf8.first", laid_unicode_utf8_first)] }
def RenamePairsSaid : Prop := renamePairsRow.holds Tryd.pinned (OpenSpec.ofChange renamePairsSpec)

/-- ITS FALSE NEIGHBOUR: 'it returns false'. Refute it at one input. -/
def renamePairsWrong : ChangeSpec := { name := "renamePairs", fn := fun _ => fun
  | [d1, d2] => { results := [.lit (.bool false)], args := [d1, d2] }
  | _ => none }
def RenamePairsWrongFalsely : Prop := renamePairsRow.holds Tryd.pinned (OpenSpec.ofChange renamePairsWrong)

/-- 'pentimentolaw18.RenameTells': WHATEVER THE INPUT: true; the input reads as it did. -/
def renameTellsSpec : ChangeSpec := { name := "renameTells", fn := fun _ => fun
  | [d1, d2, d3, d4, d5] => { results := [.lit (.bool true)], args := [d1, d2, d3, d4, d5] }
  | _ => none }
def renameTellsRow : OpenClaim := { program := "ytgpidbdgodgefaadoor", sum := "b07f87b469fddad7bf64a01b8eac5de927ebeb61fca5c2cfc697de2b69ecf990", func := "pentimento/pentimentolaw18.RenameTells", spec := "renameTells", inPlace := ["math.Float64bits", "math.Float64frombits", "internal/bytealg.CountString", "internal/bytealg.IndexByteString", "internal/bytealg.IndexString", "internal/bytealg.IndexByte", "internal/bytealg.abigen_runtime_cmpstring"], named := ["unicode/utf8.first", "unicode/utf8.acceptRanges", "internal/bytealg.MaxLen"], apart := false, laid := [("unicode/utf8.acceptRanges", laid_unicode_utf8_acceptRanges), ("unicode/utf8.first", laid_unicode_utf8_first)] }
def RenameTellsSaid : Prop := renameTellsRow.holds Tryd.pinned (OpenSpec.ofChange renameTellsSpec)

/-- ITS FALSE NEIGHBOUR: 'it returns false'. Refute it at one input. -/
def renameTellsWrong : ChangeSpec := { name := "renameTells", fn := fun _ => fun
  | [d1, d2, d3, d4, d5] => { results := [.lit (.bool false)], args := [d1, d2, d3, d4, d5] }
  | _ => none }
def RenameTellsWrongFalsely : Prop := renameTellsRow.holds Tryd.pinned (OpenSpec.ofChange renameTellsWrong)

/-- 'pentimentolaw18.RenameMoves': WHATEVER THE INPUT: true; the input reads as it did. -/
def renameMovesSpec : ChangeSpec := { name := "renameMoves", fn := fun _ => fun
  | [d1, d2, d3] => { results := [.lit (.bool true)], args := [d1, d2, d3] }
  | _ => none }
def renameMovesRow : OpenClaim := { program := "ytgpidbdgodgefaadoor", sum := "b07f87b469fddad7bf64a01b8eac5de927ebeb61fca5c2cfc697de2b69ecf990", func := "pentimento/pentimentolaw18.RenameMoves", spec := "renameMoves", inPlace := ["math.Float64bits", "math.Float64frombits", "internal/bytealg.CountString", "internal/bytealg.IndexByteString", "internal/bytealg.IndexString", "internal/bytealg.IndexByte", "internal/bytealg.abigen_runtime_cmpstring"], named := ["unicode/utf8.first", "unicode/utf8.acceptRanges", "internal/bytealg.MaxLen"], apart := false, laid := [("unicode/utf8.acceptRanges", laid_unicode_utf8_acceptRanges), ("unicode/utf8.first", laid_unicode_utf8_first)] }
def RenameMovesSaid : Prop := renameMovesRow.holds Tryd.pinned (OpenSpec.ofChange renameMovesSpec)

/-- ITS FALSE NEIGHBOUR: 'it returns false'. Refute it at one input. -/
def renameMovesWrong : ChangeSpec := { name := "renameMoves", fn := fun _ => fun
  | [d1, d2, d3] => { results := [.lit (.bool false)], args := [d1, d2, d3] }
  | _ => none }
def RenameMovesWrongFalsely : Prop := renameMovesRow.holds Tryd.pinned (OpenSpec.ofChange renameMovesWrong)

/- THE SECOND FORM. 'bulk': how many values and letters a reading holds, each counted each time it is reached (what is shared counts as often as it is met; a slice's spare places count too). A statement '..UptoSaid' is the law's where the arguments, and the package variables that the reading takes, are together of bulk at most 1048576: NARROWER than '..Said'. Prove '..Said' where nothing that the law and all that it calls make is longer than what came in: it says more and counts as full. Else prove '..UptoSaid'. A law counts once. -/
mutual
def uptoBulk {H : Type} : DataW H → Nat
  | .lit (.string bytes) => bytes.length + 1
  | .lit _ => 1
  | .nil => 1
  | .ptr d => uptoBulk d + 1
  | .slice elems spare => uptoBulkAll elems + uptoBulkAll spare + 1
  | .agg parts => uptoBulkAll parts + 1
  | .iface _ d => uptoBulk d + 1
  | .map entries => uptoBulkEntries entries + 1
  | .held _ => 1
def uptoBulkAll {H : Type} : List (DataW H) → Nat
  | [] => 0
  | d :: r => uptoBulk d + uptoBulkAll r
def uptoBulkEntries {H : Type} : List (Lit × DataW H) → Nat
  | [] => 0
  | x :: r => uptoBulkEntry x + uptoBulkEntries r
def uptoBulkEntry {H : Type} : Lit × DataW H → Nat
  | (.string bytes, d) => bytes.length + uptoBulk d + 1
  | (_, d) => uptoBulk d + 1
 end
def uptoSmall : (H : Type) → List (DataW H) → Bool := fun _ ds => decide (uptoBulkAll ds ≤ 1048576)
def OpenSpec.upto (s : _root_.Go.ChangeSpec) : _root_.Go.OpenSpec := { _root_.Go.OpenSpec.ofChange s with cond := some uptoSmall }

/-- 'pentimentolaw9.NameBelow', WHERE WHAT IT READS IS OF BULK AT MOST 1048576: true; the input reads as it did. -/
def nameBelowUptoRow : OpenClaim := { program := "ytgpidbdgodgefaadoor", sum := "b07f87b469fddad7bf64a01b8eac5de927ebeb61fca5c2cfc697de2b69ecf990", func := "pentimento/pentimentolaw9.NameBelow", spec := "nameBelow", inPlace := ["internal/bytealg.IndexByteString", "internal/bytealg.CountString", "internal/bytealg.IndexString"], named := ["unicode/utf8.first", "unicode/utf8.acceptRanges", "internal/bytealg.MaxLen"], apart := false, laid := [("unicode/utf8.acceptRanges", laid_unicode_utf8_acceptRanges), ("unicode/utf8.first", laid_unicode_utf8_first)], narrowed := true }
def NameBelowUptoSaid : Prop := nameBelowUptoRow.holds Tryd.pinned (OpenSpec.upto nameBelowSpec)

/-- 'pentimentolaw9.NameKnown', WHERE WHAT IT READS IS OF BULK AT MOST 1048576: true; the input reads as it did. -/
def nameKnownUptoRow : OpenClaim := { program := "ytgpidbdgodgefaadoor", sum := "b07f87b469fddad7bf64a01b8eac5de927ebeb61fca5c2cfc697de2b69ecf990", func := "pentimento/pentimentolaw9.NameKnown", spec := "nameKnown", inPlace := ["internal/bytealg.IndexByteString", "internal/bytealg.CountString", "internal/bytealg.IndexString"], named := ["unicode/utf8.first", "unicode/utf8.acceptRanges", "internal/bytealg.MaxLen"], apart := false, laid := [("unicode/utf8.acceptRanges", laid_unicode_utf8_acceptRanges), ("unicode/utf8.first", laid_unicode_utf8_first)], narrowed := true }
def NameKnownUptoSaid : Prop := nameKnownUptoRow.holds Tryd.pinned (OpenSpec.upto nameKnownSpec)

/-- 'pentimentolaw9.NameTells', WHERE WHAT IT READS IS OF BULK AT MOST 1048576: true; the input reads as it did. -/
def nameTellsUptoRow : OpenClaim := { program := "ytgpidbdgodgefaadoor", sum := "b07f87b469fddad7bf64a01b8eac5de927ebeb61fca5c2cfc697de2b69ecf990", func := "pentimento/pentimentolaw9.NameTells", spec := "nameTells", inPlace := ["internal/bytealg.IndexByteString", "internal/bytealg.CountString", "internal/bytealg.IndexString"], named := ["unicode/utf8.first", "unicode/utf8.acceptRanges", "internal/bytealg.MaxLen"], apart := false, laid := [("unicode/utf8.acceptRanges", laid_unicode_utf8_acceptRanges), ("unicode/utf8.first", laid_unicode_utf8_first)], narrowed := true }
def NameTellsUptoSaid : Prop := nameTellsUptoRow.holds Tryd.pinned (OpenSpec.upto nameTellsSpec)

/-- 'pentimentolaw9.NamePaths', WHERE WHAT IT READS IS OF BULK AT MOST 1048576: true; the input reads as it did. -/
def namePathsUptoRow : OpenClaim := { program := "ytgpidbdgodgefaadoor", sum := "b07f87b469fddad7bf64a01b8eac5de927ebeb61fca5c2cfc697de2b69ecf990", func := "pentimento/pentimentolaw9.NamePaths", spec := "namePaths", inPlace := ["internal/bytealg.IndexByteString", "internal/bytealg.CountString", "internal/bytealg.IndexString"], named := ["unicode/utf8.first", "unicode/utf8.acceptRanges", "internal/bytealg.MaxLen"], apart := false, laid := [("unicode/utf8.acceptRanges", laid_unicode_utf8_acceptRanges), ("unicode/utf8.first", laid_unicode_utf8_first)], narrowed := true }
def NamePathsUptoSaid : Prop := namePathsUptoRow.holds Tryd.pinned (OpenSpec.upto namePathsSpec)

/-- 'pentimentolaw15.WalkKnown', WHERE WHAT IT READS IS OF BULK AT MOST 1048576: true; the input reads as it did. -/
def walkKnownUptoRow : OpenClaim := { program := "ytgpidbdgodgefaadoor", sum := "b07f87b469fddad7bf64a01b8eac5de927ebeb61fca5c2cfc697de2b69ecf990", func := "pentimento/pentimentolaw15.WalkKnown", spec := "walkKnown", inPlace := ["internal/bytealg.IndexByteString", "internal/bytealg.CountString", "internal/bytealg.IndexString", "internal/bytealg.abigen_runtime_cmpstring"], unfollowed := true, recurses := true, named := ["unicode/utf8.first", "unicode/utf8.acceptRanges", "internal/bytealg.MaxLen"], apart := false, laid := [("unicode/utf8.acceptRanges", laid_unicode_utf8_acceptRanges), ("unicode/utf8.first", laid_unicode_utf8_first)], narrowed := true }
def WalkKnownUptoSaid : Prop := walkKnownUptoRow.holds Tryd.pinned (OpenSpec.upto walkKnownSpec)

/-- 'pentimentolaw15.WalkHops', WHERE WHAT IT READS IS OF BULK AT MOST 1048576: true; the input reads as it did. -/
def walkHopsUptoRow : OpenClaim := { program := "ytgpidbdgodgefaadoor", sum := "b07f87b469fddad7bf64a01b8eac5de927ebeb61fca5c2cfc697de2b69ecf990", func := "pentimento/pentimentolaw15.WalkHops", spec := "walkHops", inPlace := ["internal/bytealg.IndexByteString", "internal/bytealg.CountString", "internal/bytealg.IndexString", "internal/bytealg.abigen_runtime_cmpstring"], unfollowed := true, recurses := true, named := ["unicode/utf8.first", "unicode/utf8.acceptRanges", "internal/bytealg.MaxLen"], apart := false, laid := [("unicode/utf8.acceptRanges", laid_unicode_utf8_acceptRanges), ("unicode/utf8.first", laid_unicode_utf8_first)], narrowed := true }
def WalkHopsUptoSaid : Prop := walkHopsUptoRow.holds Tryd.pinned (OpenSpec.upto walkHopsSpec)

/-- 'pentimentolaw18.RenameKnown', WHERE WHAT IT READS IS OF BULK AT MOST 1048576: true; the input reads as it did. -/
def renameKnownUptoRow : OpenClaim := { program := "ytgpidbdgodgefaadoor", sum := "b07f87b469fddad7bf64a01b8eac5de927ebeb61fca5c2cfc697de2b69ecf990", func := "pentimento/pentimentolaw18.RenameKnown", spec := "renameKnown", inPlace := ["internal/bytealg.CountString", "internal/bytealg.IndexByteString", "internal/bytealg.IndexString", "math.Float64bits", "math.Float64frombits", "internal/bytealg.IndexByte", "internal/bytealg.abigen_runtime_cmpstring"], named := ["unicode/utf8.first", "unicode/utf8.acceptRanges", "internal/bytealg.MaxLen"], apart := false, laid := [("unicode/utf8.acceptRanges", laid_unicode_utf8_acceptRanges), ("unicode/utf8.first", laid_unicode_utf8_first)], narrowed := true }
def RenameKnownUptoSaid : Prop := renameKnownUptoRow.holds Tryd.pinned (OpenSpec.upto renameKnownSpec)

/-- 'pentimentolaw15.WalkTells', WHERE WHAT IT READS IS OF BULK AT MOST 1048576: true; the input reads as it did. -/
def walkTellsUptoRow : OpenClaim := { program := "ytgpidbdgodgefaadoor", sum := "b07f87b469fddad7bf64a01b8eac5de927ebeb61fca5c2cfc697de2b69ecf990", func := "pentimento/pentimentolaw15.WalkTells", spec := "walkTells", inPlace := ["math.Float64bits", "math.Float64frombits", "internal/bytealg.IndexByteString", "internal/bytealg.CountString", "internal/bytealg.IndexString", "internal/bytealg.abigen_runtime_cmpstring"], unfollowed := true, recurses := true, named := ["unicode/utf8.first", "unicode/utf8.acceptRanges", "internal/bytealg.MaxLen"], apart := false, laid := [("unicode/utf8.acceptRanges", laid_unicode_utf8_acceptRanges), ("unicode/utf8.first", laid_unicode_utf8_first)], narrowed := true }
def WalkTellsUptoSaid : Prop := walkTellsUptoRow.holds Tryd.pinned (OpenSpec.upto walkTellsSpec)

/-- 'pentimentolaw15.WalkPlain', WHERE WHAT IT READS IS OF BULK AT MOST 1048576: true; the input reads as it did. -/
def walkPlainUptoRow : OpenClaim := { program := "ytgpidbdgodgefaadoor", sum := "b07f87b469fddad7bf64a01b8eac5de927ebeb61fca5c2cfc697de2b69ecf990", func := "pentimento/pentimentolaw15.WalkPlain", spec := "walkPlain", inPlace := ["math.Float64bits", "math.Float64frombits", "internal/bytealg.IndexByteString", "internal/bytealg.CountString", "internal/bytealg.IndexString", "internal/bytealg.abigen_runtime_cmpstring"], unfollowed := true, recurses := true, named := ["unicode/utf8.first", "unicode/utf8.acceptRanges", "internal/bytealg.MaxLen"], apart := false, laid := [("unicode/utf8.acceptRanges", laid_unicode_utf8_acceptRanges), ("unicode/utf8.first", laid_unicode_utf8_first)], narrowed := true }
def WalkPlainUptoSaid : Prop := walkPlainUptoRow.holds Tryd.pinned (OpenSpec.upto walkPlainSpec)

/-- 'pentimentolaw15.WalkDots', WHERE WHAT IT READS IS OF BULK AT MOST 1048576: true; the input reads as it did. -/
def walkDotsUptoRow : OpenClaim := { program := "ytgpidbdgodgefaadoor", sum := "b07f87b469fddad7bf64a01b8eac5de927ebeb61fca5c2cfc697de2b69ecf990", func := "pentimento/pentimentolaw15.WalkDots", spec := "walkDots", inPlace := ["math.Float64bits", "math.Float64frombits", "internal/bytealg.IndexByteString", "internal/bytealg.CountString", "internal/bytealg.IndexString", "internal/bytealg.abigen_runtime_cmpstring"], unfollowed := true, recurses := true, named := ["unicode/utf8.first", "unicode/utf8.acceptRanges", "internal/bytealg.MaxLen"], apart := false, laid := [("unicode/utf8.acceptRanges", laid_unicode_utf8_acceptRanges), ("unicode/utf8.first", laid_unicode_utf8_first)], narrowed := true }
def WalkDotsUptoSaid : Prop := walkDotsUptoRow.holds Tryd.pinned (OpenSpec.upto walkDotsSpec)

/-- 'pentimentolaw18.RenamePairs', WHERE WHAT IT READS IS OF BULK AT MOST 1048576: true; the input reads as it did. -/
def renamePairsUptoRow : OpenClaim := { program := "ytgpidbdgodgefaadoor", sum := "b07f87b469fddad7bf64a01b8eac5de927ebeb61fca5c2cfc697de2b69ecf990", func := "pentimento/pentimentolaw18.RenamePairs", spec := "renamePairs", inPlace := ["math.Float64bits", "math.Float64frombits", "internal/bytealg.CountString", "internal/bytealg.IndexByteString", "internal/bytealg.IndexString", "internal/bytealg.IndexByte", "internal/bytealg.abigen_runtime_cmpstring"], named := ["unicode/utf8.first", "unicode/utf8.acceptRanges", "internal/bytealg.MaxLen"], apart := false, laid := [("unicode/utf8.acceptRanges", laid_unicode_utf8_acceptRanges), ("unicode/utf8.first", laid_unicode_utf8_first)], narrowed := true }
def RenamePairsUptoSaid : Prop := renamePairsUptoRow.holds Tryd.pinned (OpenSpec.upto renamePairsSpec)

/-- 'pentimentolaw18.RenameTells', WHERE WHAT IT READS IS OF BULK AT MOST 1048576: true; the input reads as it did. -/
def renameTellsUptoRow : OpenClaim := { program := "ytgpidbdgodgefaadoor", sum := "b07f87b469fddad7bf64a01b8eac5de927ebeb61fca5c2cfc697de2b69ecf990", func := "pentimento/pentimentolaw18.RenameTells", spec := "renameTells", inPlace := ["math.Float64bits", "math.Float64frombits", "internal/bytealg.CountString", "internal/bytealg.IndexByteString", "internal/bytealg.IndexString", "internal/bytealg.IndexByte", "internal/bytealg.abigen_runtime_cmpstring"], named := ["unicode/utf8.first", "unicode/utf8.acceptRanges", "internal/bytealg.MaxLen"], apart := false, laid := [("unicode/utf8.acceptRanges", laid_unicode_utf8_acceptRanges), ("unicode/utf8.first", laid_unicode_utf8_first)], narrowed := true }
def RenameTellsUptoSaid : Prop := renameTellsUptoRow.holds Tryd.pinned (OpenSpec.upto renameTellsSpec)

/-- 'pentimentolaw18.RenameMoves', WHERE WHAT IT READS IS OF BULK AT MOST 1048576: true; the input reads as it did. -/
def renameMovesUptoRow : OpenClaim := { program := "ytgpidbdgodgefaadoor", sum := "b07f87b469fddad7bf64a01b8eac5de927ebeb61fca5c2cfc697de2b69ecf990", func := "pentimento/pentimentolaw18.RenameMoves", spec := "renameMoves", inPlace := ["math.Float64bits", "math.Float64frombits", "internal/bytealg.CountString", "internal/bytealg.IndexByteString", "internal/bytealg.IndexString", "internal/bytealg.IndexByte", "internal/bytealg.abigen_runtime_cmpstring"], named := ["unicode/utf8.first", "unicode/utf8.acceptRanges", "internal/bytealg.MaxLen"], apart := false, laid := [("unicode/utf8.acceptRanges", laid_unicode_utf8_acceptRanges), ("unicode/utf8.first", laid_unicode_utf8_first)], narrowed := true }
def RenameMovesUptoSaid : Prop := renameMovesUptoRow.holds Tryd.pinned (OpenSpec.upto renameMovesSpec)

end Rows
end Go.Proofs.YtgpidbdgodgefaaDoor
