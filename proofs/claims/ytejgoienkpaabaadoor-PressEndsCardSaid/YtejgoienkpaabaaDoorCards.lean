/-
  DERIVED. GIVEN WITH THE SEED: THE CARDS: each row of YtejgoienkpaabaaDoorRows.lean that lists a variable, with what it lists TIED to the program's text (the seventh form; the later family's looks); each row that meets fmt, with fmt's text TOLD by the authors' own Lean function (tested against real Go, not proved from fmt's source: count such statements apart). THE CARD IS WHAT COUNTS. Prove the row's statement (the work); the ties are given (YtejgoienkpaabaaDoorTie.lean); close each card by the builder's one call (the guide's Derived/Test/ToyasCard.lean, 'card_holds'). Laid BY PROGRAM, IN A SANDBOX (cutbox-door.mjs). By AI agents, Wed Nov 11 2026. No macro, syntax, notation, axiom, sorry.
-/
import Derived.Test.YtejgoienkpaabaaDoorRows
import GoSem.ClaimSeven
namespace Go.Proofs.YtejgoienkpaabaaDoor
namespace Rows

/-- THE TIED CARD OF 'satchellaw8.PressExact'. -/
def pressExactCard : Claim7 := { stood := { row := pressExactRow, standIns := [], harness := (true, "ab20578bbb2b6348f676f1b2a127e93b5ff6d3091a849ef6ec7100d7fb280cff"), looks := false }, kinds := [], alts := [], laidByText := true, laidKinds := [.data], laidTests := true, laidLooks := .later }
def PressExactCardSaid : Prop := Claim7.holds Tryd.pinned (.plain (OpenSpec.ofChange pressExactSpec)) pressExactCard

/-- THE TIED CARD OF 'satchellaw8.PressPlaced'. -/
def pressPlacedCard : Claim7 := { stood := { row := pressPlacedRow, standIns := [], harness := (true, "ab20578bbb2b6348f676f1b2a127e93b5ff6d3091a849ef6ec7100d7fb280cff"), looks := false }, kinds := [], alts := [], laidByText := true, laidKinds := [.data], laidTests := true, laidLooks := .later }
def PressPlacedCardSaid : Prop := Claim7.holds Tryd.pinned (.plain (OpenSpec.ofChange pressPlacedSpec)) pressPlacedCard

/-- THE TIED CARD OF 'satchellaw8.PressBack'. -/
def pressBackCard : Claim7 := { stood := { row := pressBackRow, standIns := [], harness := (true, "ab20578bbb2b6348f676f1b2a127e93b5ff6d3091a849ef6ec7100d7fb280cff"), looks := false }, kinds := [], alts := [], laidByText := true, laidKinds := [.data], laidTests := true, laidLooks := .later }
def PressBackCardSaid : Prop := Claim7.holds Tryd.pinned (.plain (OpenSpec.ofChange pressBackSpec)) pressBackCard

/-- THE TIED CARD OF 'satchellaw8.PressLong'. -/
def pressLongCard : Claim7 := { stood := { row := pressLongRow, standIns := [], harness := (true, "ab20578bbb2b6348f676f1b2a127e93b5ff6d3091a849ef6ec7100d7fb280cff"), looks := false }, kinds := [], alts := [], laidByText := true, laidKinds := [.data], laidTests := true, laidLooks := .later }
def PressLongCardSaid : Prop := Claim7.holds Tryd.pinned (.plain (OpenSpec.ofChange pressLongSpec)) pressLongCard

/-- THE TIED CARD OF 'satchellaw8.PressBlock'. -/
def pressBlockCard : Claim7 := { stood := { row := pressBlockRow, standIns := [], harness := (true, "ab20578bbb2b6348f676f1b2a127e93b5ff6d3091a849ef6ec7100d7fb280cff"), looks := false }, kinds := [], alts := [], laidByText := true, laidKinds := [.data], laidTests := true, laidLooks := .later }
def PressBlockCardSaid : Prop := Claim7.holds Tryd.pinned (.plain (OpenSpec.ofChange pressBlockSpec)) pressBlockCard

/-- THE TIED CARD OF 'satchellaw8.PressEnds'. -/
def pressEndsCard : Claim7 := { stood := { row := pressEndsRow, standIns := [], harness := (true, "ab20578bbb2b6348f676f1b2a127e93b5ff6d3091a849ef6ec7100d7fb280cff"), looks := false }, kinds := [], alts := [], laidByText := true, laidKinds := [.data], laidTests := true, laidLooks := .later }
def PressEndsCardSaid : Prop := Claim7.holds Tryd.pinned (.plain (OpenSpec.ofChange pressEndsSpec)) pressEndsCard

/-- THE SECOND FORM's CARD OF 'satchellaw8.PressExact'. -/
def pressExactUptoCard : Claim7 := { stood := { row := pressExactUptoRow, standIns := [], harness := (true, "ab20578bbb2b6348f676f1b2a127e93b5ff6d3091a849ef6ec7100d7fb280cff"), looks := false }, kinds := [], alts := [], laidByText := true, laidKinds := [.data], laidTests := true, laidLooks := .later }
def PressExactUptoCardSaid : Prop := Claim7.holds Tryd.pinned (.plain (OpenSpec.upto pressExactSpec)) pressExactUptoCard

/-- THE SECOND FORM's CARD OF 'satchellaw8.PressPlaced'. -/
def pressPlacedUptoCard : Claim7 := { stood := { row := pressPlacedUptoRow, standIns := [], harness := (true, "ab20578bbb2b6348f676f1b2a127e93b5ff6d3091a849ef6ec7100d7fb280cff"), looks := false }, kinds := [], alts := [], laidByText := true, laidKinds := [.data], laidTests := true, laidLooks := .later }
def PressPlacedUptoCardSaid : Prop := Claim7.holds Tryd.pinned (.plain (OpenSpec.upto pressPlacedSpec)) pressPlacedUptoCard

/-- THE SECOND FORM's CARD OF 'satchellaw8.PressBack'. -/
def pressBackUptoCard : Claim7 := { stood := { row := pressBackUptoRow, standIns := [], harness := (true, "ab20578bbb2b6348f676f1b2a127e93b5ff6d3091a849ef6ec7100d7fb280cff"), looks := false }, kinds := [], alts := [], laidByText := true, laidKinds := [.data], laidTests := true, laidLooks := .later }
def PressBackUptoCardSaid : Prop := Claim7.holds Tryd.pinned (.plain (OpenSpec.upto pressBackSpec)) pressBackUptoCard

/-- THE SECOND FORM's CARD OF 'satchellaw8.PressLong'. -/
def pressLongUptoCard : Claim7 := { stood := { row := pressLongUptoRow, standIns := [], harness := (true, "ab20578bbb2b6348f676f1b2a127e93b5ff6d3091a849ef6ec7100d7fb280cff"), looks := false }, kinds := [], alts := [], laidByText := true, laidKinds := [.data], laidTests := true, laidLooks := .later }
def PressLongUptoCardSaid : Prop := Claim7.holds Tryd.pinned (.plain (OpenSpec.upto pressLongSpec)) pressLongUptoCard

/-- THE SECOND FORM's CARD OF 'satchellaw8.PressBlock'. -/
def pressBlockUptoCard : Claim7 := { stood := { row := pressBlockUptoRow, standIns := [], harness := (true, "ab20578bbb2b6348f676f1b2a127e93b5ff6d3091a849ef6ec7100d7fb280cff"), looks := false }, kinds := [], alts := [], laidByText := true, laidKinds := [.data], laidTests := true, laidLooks := .later }
def PressBlockUptoCardSaid : Prop := Claim7.holds Tryd.pinned (.plain (OpenSpec.upto pressBlockSpec)) pressBlockUptoCard

/-- THE SECOND FORM's CARD OF 'satchellaw8.PressEnds'. -/
def pressEndsUptoCard : Claim7 := { stood := { row := pressEndsUptoRow, standIns := [], harness := (true, "ab20578bbb2b6348f676f1b2a127e93b5ff6d3091a849ef6ec7100d7fb280cff"), looks := false }, kinds := [], alts := [], laidByText := true, laidKinds := [.data], laidTests := true, laidLooks := .later }
def PressEndsUptoCardSaid : Prop := Claim7.holds Tryd.pinned (.plain (OpenSpec.upto pressEndsSpec)) pressEndsUptoCard
end Rows
end Go.Proofs.YtejgoienkpaabaaDoor
