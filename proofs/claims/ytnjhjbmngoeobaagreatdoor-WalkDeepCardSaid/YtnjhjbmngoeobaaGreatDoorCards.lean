/-
  DERIVED. GIVEN WITH THE SEED: THE CARDS: each row of YtnjhjbmngoeobaaGreatDoorRows.lean that lists a variable, with what it lists TIED to the program's text (the seventh form; the later family's looks); each row that meets fmt, with fmt's text TOLD by the authors' own Lean function (tested against real Go, not proved from fmt's source: count such statements apart). THE CARD IS WHAT COUNTS. Prove the row's statement (the work); the ties are given (YtnjhjbmngoeobaaGreatDoorTie.lean); close each card by the builder's one call (the guide's Derived/Test/ToyasCard.lean, 'card_holds'). Laid BY PROGRAM, IN A SANDBOX (cutbox-door.mjs). By AI agents, Wed Nov 11 2026. No macro, syntax, notation, axiom, sorry.
-/
import Derived.Test.YtnjhjbmngoeobaaGreatDoorRows
import GoSem.ClaimSeven
namespace Go.Proofs.YtnjhjbmngoeobaaGreatDoor
namespace Rows

/-- THE TIED CARD OF 'satchellaw5.WalkDeep'. -/
def walkDeepCard : Claim7 := { stood := { row := walkDeepRow, standIns := [], harness := (true, "7cdbaeec69416a91b08fabf518926c2a5993d8be60d18ac73acc1ffdbd79d16f"), looks := true }, kinds := [], alts := [], laidByText := true, laidKinds := [.data, .data, .data], laidTests := true, laidLooks := .later }
def WalkDeepCardSaid : Prop := Claim7.holds Tryz.pinned (.plain (OpenSpec.ofChange walkDeepSpec)) walkDeepCard

/-- THE SECOND FORM's CARD OF 'satchellaw5.WalkDeep'. -/
def walkDeepUptoCard : Claim7 := { stood := { row := walkDeepUptoRow, standIns := [], harness := (true, "7cdbaeec69416a91b08fabf518926c2a5993d8be60d18ac73acc1ffdbd79d16f"), looks := true }, kinds := [], alts := [], laidByText := true, laidKinds := [.data, .data, .data], laidTests := true, laidLooks := .later }
def WalkDeepUptoCardSaid : Prop := Claim7.holds Tryz.pinned (.plain (OpenSpec.upto walkDeepSpec)) walkDeepUptoCard
end Rows
end Go.Proofs.YtnjhjbmngoeobaaGreatDoor
