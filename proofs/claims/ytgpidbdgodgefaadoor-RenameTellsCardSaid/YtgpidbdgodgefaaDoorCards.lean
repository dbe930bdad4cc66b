/-
  DERIVED. GIVEN WITH THE SEED: THE CARDS: each row of YtgpidbdgodgefaaDoorRows.lean that lists a variable, with what it lists TIED to the program's text (the seventh form; the later family's looks); each row that meets fmt, with fmt's text TOLD by the authors' own Lean function (tested against real Go, not proved from fmt's source: count such statements apart). THE CARD IS WHAT COUNTS. Prove the row's statement (the work); the ties are given (YtgpidbdgodgefaaDoorTie.lean); close each card by the builder's one call (the guide's Derived/Test/ToyasCard.lean, 'card_holds'). Laid BY PROGRAM, IN A SANDBOX (cutbox-door.mjs). By AI agents, Wed Nov 11 2026. No macro, syntax, notation, axiom, sorry.
-/
import Derived.Test.YtgpidbdgodgefaaDoorRows
import GoSem.ClaimSeven
namespace Go.Proofs.YtgpidbdgodgefaaDoor
namespace Rows

/-- THE TIED CARD OF 'pentimentolaw9.NameBelow'. -/
def nameBelowCard : Claim7 := { stood := { row := nameBelowRow, standIns := [], harness := (true, "9d5657fb365d43a7dabe20a6b388875e51d212bd943c6fac0c179ce4c626fe8f"), looks := false }, kinds := [], alts := [], laidByText := true, laidKinds := [.data, .pinned], laidTests := true, laidLooks := .later }
def NameBelowCardSaid : Prop := Claim7.holds Tryd.pinned (.plain (OpenSpec.ofChange nameBelowSpec)) nameBelowCard

/-- THE TIED CARD OF 'pentimentolaw9.NameKnown'. -/
def nameKnownCard : Claim7 := { stood := { row := nameKnownRow, standIns := [], harness := (true, "9d5657fb365d43a7dabe20a6b388875e51d212bd943c6fac0c179ce4c626fe8f"), looks := false }, kinds := [], alts := [], laidByText := true, laidKinds := [.data, .pinned], laidTests := true, laidLooks := .later }
def NameKnownCardSaid : Prop := Claim7.holds Tryd.pinned (.plain (OpenSpec.ofChange nameKnownSpec)) nameKnownCard

/-- THE TIED CARD OF 'pentimentolaw9.NameTells'. -/
def nameTellsCard : Claim7 := { stood := { row := nameTellsRow, standIns := [], harness := (true, "9d5657fb365d43a7dabe20a6b388875e51d212bd943c6fac0c179ce4c626fe8f"), looks := false }, kinds := [], alts := [], laidByText := true, laidKinds := [.data, .pinned], laidTests := true, laidLooks := .later }
def NameTellsCardSaid : Prop := Claim7.holds Tryd.pinned (.plain (OpenSpec.ofChange nameTellsSpec)) nameTellsCard

/-- THE TIED CARD OF 'pentimentolaw9.NamePaths'. -/
def namePathsCard : Claim7 := { stood := { row := namePathsRow, standIns := [], harness := (true, "9d5657fb365d43a7dabe20a6b388875e51d212bd943c6fac0c179ce4c626fe8f"), looks := false }, kinds := [], alts := [], laidByText := true, laidKinds := [.data, .pinned], laidTests := true, laidLooks := .later }
def NamePathsCardSaid : Prop := Claim7.holds Tryd.pinned (.plain (OpenSpec.ofChange namePathsSpec)) namePathsCard

/-- THE TIED CARD OF 'pentimentolaw15.WalkKnown'. -/
def walkKnownCard : Claim7 := { stood := { row := walkKnownRow, standIns := [], harness := (true, "9d5657fb365d43a7dabe20a6b388875e51d212bd943c6fac0c179ce4c626fe8f"), looks := false }, kinds := [], alts := [], laidByText := true, laidKinds := [.data, .pinned], laidTests := true, laidLooks := .later }
def WalkKnownCardSaid : Prop := Claim7.holds Tryd.pinned (.plain (OpenSpec.ofChange walkKnownSpec)) walkKnownCard

/-- THE TIED CARD OF 'pentimentolaw15.WalkHops'. -/
def walkHopsCard : Claim7 := { stood := { row := walkHopsRow, standIns := [], harness := (true, "9d5657fb365d43a7dabe20a6b388875e51d212bd943c6fac0c179ce4c626fe8f"), looks := false }, kinds := [], alts := [], laidByText := true, laidKinds := [.data, .pinned], laidTests := true, laidLooks := .later }
def WalkHopsCardSaid : Prop := Claim7.holds Tryd.pinned (.plain (OpenSpec.ofChange walkHopsSpec)) walkHopsCard

/-- THE TIED CARD OF 'pentimentolaw18.RenameKnown'. -/
def renameKnownCard : Claim7 := { stood := { row := renameKnownRow, standIns := [], harness := (true, "9d5657fb365d43a7dabe20a6b388875e51d212bd943c6fac0c179ce4c626fe8f"), looks := false }, kinds := [], alts := [], laidByText := true, laidKinds := [.data, .pinned], laidTests := true, laidLooks := .later }
def RenameKnownCardSaid : Prop := Claim7.holds Tryd.pinned (.plain (OpenSpec.ofChange renameKnownSpec)) renameKnownCard

/-- THE TIED CARD OF 'pentimentolaw15.WalkTells'. -/
def walkTellsCard : Claim7 := { stood := { row := walkTellsRow, standIns := [], harness := (true, "9d5657fb365d43a7dabe20a6b388875e51d212bd943c6fac0c179ce4c626fe8f"), looks := false }, kinds := [], alts := [], laidByText := true, laidKinds := [.data, .pinned], laidTests := true, laidLooks := .later }
def WalkTellsCardSaid : Prop := Claim7.holds Tryd.pinned (.plain (OpenSpec.ofChange walkTellsSpec)) walkTellsCard

/-- THE TIED CARD OF 'pentimentolaw15.WalkPlain'. -/
def walkPlainCard : Claim7 := { stood := { row := walkPlainRow, standIns := [], harness := (true, "9d5657fb365d43a7dabe20a6b388875e51d212bd943c6fac0c179ce4c626fe8f"), looks := false }, kinds := [], alts := [], laidByText := true, laidKinds := [.data, .pinned], laidTests := true, laidLooks := .later }
def WalkPlainCardSaid : Prop := Claim7.holds Tryd.pinned (.plain (OpenSpec.ofChange walkPlainSpec)) walkPlainCard

/-- THE TIED CARD OF 'pentimentolaw15.WalkDots'. -/
def walkDotsCard : Claim7 := { stood := { row := walkDotsRow, standIns := [], harness := (true, "9d5657fb365d43a7dabe20a6b388875e51d212bd943c6fac0c179ce4c626fe8f"), looks := false }, kinds := [], alts := [], laidByText := true, laidKinds := [.data, .pinned], laidTests := true, laidLooks := .later }
def WalkDotsCardSaid : Prop := Claim7.holds Tryd.pinned (.plain (OpenSpec.ofChange walkDotsSpec)) walkDotsCard

/-- THE TIED CARD OF 'pentimentolaw18.RenamePairs'. -/
def renamePairsCard : Claim7 := { stood := { row := renamePairsRow, standIns := [], harness := (true, "9d5657fb365d43a7dabe20a6b388875e51d212bd943c6fac0c179ce4c626fe8f"), looks := false }, kinds := [], alts := [], laidByText := true, laidKinds := [.data, .pinned], laidTests := true, laidLooks := .later }
def RenamePairsCardSaid : Prop := Claim7.holds Tryd.pinned (.plain (OpenSpec.ofChange renamePairsSpec)) renamePairsCard

/-- THE TIED CARD OF 'pentimentolaw18.RenameTells'. -/
def renameTellsCard : Claim7 := { stood := { row := renameTellsRow, standIns := [], harness := (true, "9d5657fb365d43a7dabe20a6b388875e51d212bd943c6fac0c179ce4c626fe8f"), looks := false }, kinds := [], alts := [], laidByText := true, laidKinds := [.data, .pinned], laidTests := true, laidLooks := .later }
def RenameTellsCardSaid : Prop := Claim7.holds Tryd.pinned (.plain (OpenSpec.ofChange renameTellsSpec)) renameTellsCard

/-- THE TIED CARD OF 'pentimentolaw18.RenameMoves'. -/
def renameMovesCard : Claim7 := { stood := { row := renameMovesRow, standIns := [], harness := (true, "9d5657fb365d43a7dabe20a6b388875e51d212bd943c6fac0c179ce4c626fe8f"), looks := false }, kinds := [], alts := [], laidByText := true, laidKinds := [.data, .pinned], laidTests := true, laidLooks := .later }
def RenameMovesCardSaid : Prop := Claim7.holds Tryd.pinned (.plain (OpenSpec.ofChange renameMovesSpec)) renameMovesCard

/-- THE SECOND FORM's CARD OF 'pentimentolaw9.NameBelow'. -/
def nameBelowUptoCard : Claim7 := { stood := { row := nameBelowUptoRow, standIns := [], harness := (true, "9d5657fb365d43a7dabe20a6b388875e51d212bd943c6fac0c179ce4c626fe8f"), looks := false }, kinds := [], alts := [], laidByText := true, laidKinds := [.data, .pinned], laidTests := true, laidLooks := .later }
def NameBelowUptoCardSaid : Prop := Claim7.holds Tryd.pinned (.plain (OpenSpec.upto nameBelowSpec)) nameBelowUptoCard

/-- THE SECOND FORM's CARD OF 'pentimentolaw9.NameKnown'. -/
def nameKnownUptoCard : Claim7 := { stood := { row := nameKnownUptoRow, standIns := [], harness := (true, "9d5657fb365d43a7dabe20a6b388875e51d212bd943c6fac0c179ce4c626fe8f"), looks := false }, kinds := [], alts := [], laidByText := true, laidKinds := [.data, .pinned], laidTests := true, laidLooks := .later }
def NameKnownUptoCardSaid : Prop := Claim7.holds Tryd.pinned (.plain (OpenSpec.upto nameKnownSpec)) nameKnownUptoCard

/-- THE SECOND FORM's CARD OF 'pentimentolaw9.NameTells'. -/
def nameTellsUptoCard : Claim7 := { stood := { row := nameTellsUptoRow, standIns := [], harness := (true, "9d5657fb365d43a7dabe20a6b388875e51d212bd943c6fac0c179ce4c626fe8f"), looks := false }, kinds := [], alts := [], laidByText := true, laidKinds := [.data, .pinned], laidTests := true, laidLooks := .later }
def NameTellsUptoCardSaid : Prop := Claim7.holds Tryd.pinned (.plain (OpenSpec.upto nameTellsSpec)) nameTellsUptoCard

/-- THE SECOND FORM's CARD OF 'pentimentolaw9.NamePaths'. -/
def namePathsUptoCard : Claim7 := { stood := { row := namePathsUptoRow, standIns := [], harness := (true, "9d5657fb365d43a7dabe20a6b388875e51d212bd943c6fac0c179ce4c626fe8f"), looks := false }, kinds := [], alts := [], laidByText := true, laidKinds := [.data, .pinned], laidTests := true, laidLooks := .later }
def NamePathsUptoCardSaid : Prop := Claim7.holds Tryd.pinned (.plain (OpenSpec.upto namePathsSpec)) namePathsUptoCard

/-- THE SECOND FORM's CARD OF 'pentimentolaw15.WalkKnown'. -/
def walkKnownUptoCard : Claim7 := { stood := { row := walkKnownUptoRow, standIns := [], harness := (true, "9d5657fb365d43a7dabe20a6b388875e51d212bd943c6fac0c179ce4c626fe8f"), looks := false }, kinds := [], alts := [], laidByText := true, laidKinds := [.data, .pinned], laidTests := true, laidLooks := .later }
def WalkKnownUptoCardSaid : Prop := Claim7.holds Tryd.pinned (.plain (OpenSpec.upto walkKnownSpec)) walkKnownUptoCard

/-- THE SECOND FORM's CARD OF 'pentimentolaw15.WalkHops'. -/
def walkHopsUptoCard : Claim7 := { stood := { row := walkHopsUptoRow, standIns := [], harness := (true, "9d5657fb365d43a7dabe20a6b388875e51d212bd943c6fac0c179ce4c626fe8f"), looks := false }, kinds := [], alts := [], laidByText := true, laidKinds := [.data, .pinned], laidTests := true, laidLooks := .later }
def WalkHopsUptoCardSaid : Prop := Claim7.holds Tryd.pinned (.plain (OpenSpec.upto walkHopsSpec)) walkHopsUptoCard

/-- THE SECOND FORM's CARD OF 'pentimentolaw18.RenameKnown'. -/
def renameKnownUptoCard : Claim7 := { stood := { row := renameKnownUptoRow, standIns := [], harness := (true, "9d5657fb365d43a7dabe20a6b388875e51d212bd943c6fac0c179ce4c626fe8f"), looks := false }, kinds := [], alts := [], laidByText := true, laidKinds := [.data, .pinned], laidTests := true, laidLooks := .later }
def RenameKnownUptoCardSaid : Prop := Claim7.holds Tryd.pinned (.plain (OpenSpec.upto renameKnownSpec)) renameKnownUptoCard

/-- THE SECOND FORM's CARD OF 'pentimentolaw15.WalkTells'. -/
def walkTellsUptoCard : Claim7 := { stood := { row := walkTellsUptoRow, standIns := [], harness := (true, "9d5657fb365d43a7dabe20a6b388875e51d212bd943c6fac0c179ce4c626fe8f"), looks := false }, kinds := [], alts := [], laidByText := true, laidKinds := [.data, .pinned], laidTests := true, laidLooks := .later }
def WalkTellsUptoCardSaid : Prop := Claim7.holds Tryd.pinned (.plain (OpenSpec.upto walkTellsSpec)) walkTellsUptoCard

/-- THE SECOND FORM's CARD OF 'pentimentolaw15.WalkPlain'. -/
def walkPlainUptoCard : Claim7 := { stood := { row := walkPlainUptoRow, standIns := [], harness := (true, "9d5657fb365d43a7dabe20a6b388875e51d212bd943c6fac0c179ce4c626fe8f"), looks := false }, kinds := [], alts := [], laidByText := true, laidKinds := [.data, .pinned], laidTests := true, laidLooks := .later }
def WalkPlainUptoCardSaid : Prop := Claim7.holds Tryd.pinned (.plain (OpenSpec.upto walkPlainSpec)) walkPlainUptoCard

/-- THE SECOND FORM's CARD OF 'pentimentolaw15.WalkDots'. -/
def walkDotsUptoCard : Claim7 := { stood := { row := walkDotsUptoRow, standIns := [], harness := (true, "9d5657fb365d43a7dabe20a6b388875e51d212bd943c6fac0c179ce4c626fe8f"), looks := false }, kinds := [], alts := [], laidByText := true, laidKinds := [.data, .pinned], laidTests := true, laidLooks := .later }
def WalkDotsUptoCardSaid : Prop := Claim7.holds Tryd.pinned (.plain (OpenSpec.upto walkDotsSpec)) walkDotsUptoCard

/-- THE SECOND FORM's CARD OF 'pentimentolaw18.RenamePairs'. -/
def renamePairsUptoCard : Claim7 := { stood := { row := renamePairsUptoRow, standIns := [], harness := (true, "9d5657fb365d43a7dabe20a6b388875e51d212bd943c6fac0c179ce4c626fe8f"), looks := false }, kinds := [], alts := [], laidByText := true, laidKinds := [.data, .pinned], laidTests := true, laidLooks := .later }
def RenamePairsUptoCardSaid : Prop := Claim7.holds Tryd.pinned (.plain (OpenSpec.upto renamePairsSpec)) renamePairsUptoCard

/-- THE SECOND FORM's CARD OF 'pentimentolaw18.RenameTells'. -/
def renameTellsUptoCard : Claim7 := { stood := { row := renameTellsUptoRow, standIns := [], harness := (true, "9d5657fb365d43a7dabe20a6b388875e51d212bd943c6fac0c179ce4c626fe8f"), looks := false }, kinds := [], alts := [], laidByText := true, laidKinds := [.data, .pinned], laidTests := true, laidLooks := .later }
def RenameTellsUptoCardSaid : Prop := Claim7.holds Tryd.pinned (.plain (OpenSpec.upto renameTellsSpec)) renameTellsUptoCard

/-- THE SECOND FORM's CARD OF 'pentimentolaw18.RenameMoves'. -/
def renameMovesUptoCard : Claim7 := { stood := { row := renameMovesUptoRow, standIns := [], harness := (true, "9d5657fb365d43a7dabe20a6b388875e51d212bd943c6fac0c179ce4c626fe8f"), looks := false }, kinds := [], alts := [], laidByText := true, laidKinds := [.data, .pinned], laidTests := true, laidLooks := .later }
def RenameMovesUptoCardSaid : Prop := Claim7.holds Tryd.pinned (.plain (OpenSpec.upto renameMovesSpec)) renameMovesUptoCard
end Rows
end Go.Proofs.YtgpidbdgodgefaaDoor
