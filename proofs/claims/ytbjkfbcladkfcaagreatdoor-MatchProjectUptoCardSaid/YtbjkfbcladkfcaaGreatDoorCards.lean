/-
  DERIVED. GIVEN WITH THE SEED: THE CARDS: each row of YtbjkfbcladkfcaaGreatDoorRows.lean that lists a variable, with what it lists TIED to the program's text (the seventh form; the later family's looks); each row that meets fmt, with fmt's text TOLD by the authors' own Lean function (tested against real Go, not proved from fmt's source: count such statements apart). THE CARD IS WHAT COUNTS. Prove the row's statement (the work); the ties are given (YtbjkfbcladkfcaaGreatDoorTie.lean); close each card by the builder's one call (the guide's Derived/Test/ToyasCard.lean, 'card_holds'). Laid BY PROGRAM, IN A SANDBOX (cutbox-door.mjs). By AI agents, Wed Nov 11 2026. No macro, syntax, notation, axiom, sorry.
-/
import Derived.Test.YtbjkfbcladkfcaaGreatDoorRows
import GoSem.ClaimSeven
namespace Go.Proofs.YtbjkfbcladkfcaaGreatDoor
namespace Rows

/-- THE TIED CARD OF 'sluicegatelaw29.MatchProject'. -/
def matchProjectCard : Claim7 := { stood := { row := matchProjectRow, standIns := [], harness := (true, "b9431105c3295b99594ebf0a0f847d17e897c2b89975710f660850a395eae76d"), looks := true }, kinds := [], alts := [], laidByText := true, laidKinds := [.data, .pinned], laidTests := true, laidLooks := .later }
def MatchProjectCardSaid : Prop := Claim7.holds Tryz.pinned (.plain (OpenSpec.ofChange matchProjectSpec)) matchProjectCard

/-- THE TIED CARD OF 'sluicegatelaw29.MatchSame'. -/
def matchSameCard : Claim7 := { stood := { row := matchSameRow, standIns := [], harness := (true, "b9431105c3295b99594ebf0a0f847d17e897c2b89975710f660850a395eae76d"), looks := true }, kinds := [], alts := [], laidByText := true, laidKinds := [.data, .pinned], laidTests := true, laidLooks := .later }
def MatchSameCardSaid : Prop := Claim7.holds Tryz.pinned (.plain (OpenSpec.ofChange matchSameSpec)) matchSameCard

/-- THE TIED CARD OF 'sluicegatelaw29.MatchScript'. -/
def matchScriptCard : Claim7 := { stood := { row := matchScriptRow, standIns := [], harness := (true, "b9431105c3295b99594ebf0a0f847d17e897c2b89975710f660850a395eae76d"), looks := true }, kinds := [], alts := [], laidByText := true, laidKinds := [.data, .pinned], laidTests := true, laidLooks := .later }
def MatchScriptCardSaid : Prop := Claim7.holds Tryz.pinned (.plain (OpenSpec.ofChange matchScriptSpec)) matchScriptCard

/-- THE SECOND FORM's CARD OF 'sluicegatelaw29.MatchProject'. -/
def matchProjectUptoCard : Claim7 := { stood := { row := matchProjectUptoRow, standIns := [], harness := (true, "b9431105c3295b99594ebf0a0f847d17e897c2b89975710f660850a395eae76d"), looks := true }, kinds := [], alts := [], laidByText := true, laidKinds := [.data, .pinned], laidTests := true, laidLooks := .later }
def MatchProjectUptoCardSaid : Prop := Claim7.holds Tryz.pinned (.plain (OpenSpec.upto matchProjectSpec)) matchProjectUptoCard

/-- THE SECOND FORM's CARD OF 'sluicegatelaw29.MatchSame'. -/
def matchSameUptoCard : Claim7 := { stood := { row := matchSameUptoRow, standIns := [], harness := (true, "b9431105c3295b99594ebf0a0f847d17e897c2b89975710f660850a395eae76d"), looks := true }, kinds := [], alts := [], laidByText := true, laidKinds := [.data, .pinned], laidTests := true, laidLooks := .later }
def MatchSameUptoCardSaid : Prop := Claim7.holds Tryz.pinned (.plain (OpenSpec.upto matchSameSpec)) matchSameUptoCard

/-- THE SECOND FORM's CARD OF 'sluicegatelaw29.MatchScript'. -/
def matchScriptUptoCard : Claim7 := { stood := { row := matchScriptUptoRow, standIns := [], harness := (true, "b9431105c3295b99594ebf0a0f847d17e897c2b89975710f660850a395eae76d"), looks := true }, kinds := [], alts := [], laidByText := true, laidKinds := [.data, .pinned], laidTests := true, laidLooks := .later }
def MatchScriptUptoCardSaid : Prop := Claim7.holds Tryz.pinned (.plain (OpenSpec.upto matchScriptSpec)) matchScriptUptoCard
end Rows
end Go.Proofs.YtbjkfbcladkfcaaGreatDoor
