/-
  DERIVED. GIVEN WITH THE SEED: THE CARDS: each row of YtlkjleajcgifaaaGreatDoorRows.lean that lists a variable, with what it lists TIED to the program's text (the seventh form; the later family's looks); each row that meets fmt, with fmt's text TOLD by the authors' own Lean function (tested against real Go, not proved from fmt's source: count such statements apart). THE CARD IS WHAT COUNTS. Prove the row's statement (the work); the ties are given (YtlkjleajcgifaaaGreatDoorTie.lean); close each card by the builder's one call (the guide's Derived/Test/ToyasCard.lean, 'card_holds'). Laid BY PROGRAM, IN A SANDBOX (cutbox-door.mjs). By AI agents, Wed Nov 11 2026. No macro, syntax, notation, axiom, sorry.
-/
import Derived.Test.YtlkjleajcgifaaaGreatDoorRows
import GoSem.ClaimSeven
namespace Go.Proofs.YtlkjleajcgifaaaGreatDoor
namespace Rows

/-- THE TIED CARD OF 'sluicegatelaw25.ShardTurns'. -/
def shardTurnsCard : Claim7 := { stood := { row := shardTurnsRow, standIns := [], harness := (true, "5cf8f642c0cf986ed60b676836d8b817b85dddaf8cc7e20bd364a9597288c668"), looks := true }, kinds := [], alts := [], laidByText := true, laidKinds := [.data, .pinned], laidTests := true, laidLooks := .later }
def ShardTurnsCardSaid : Prop := Claim7.holds Tryz.pinned (.plain (OpenSpec.ofChange shardTurnsSpec)) shardTurnsCard

/-- THE TIED CARD OF 'sluicegatelaw25.ShardWrong'. -/
def shardWrongCard : Claim7 := { stood := { row := shardWrongRow, standIns := [], harness := (true, "5cf8f642c0cf986ed60b676836d8b817b85dddaf8cc7e20bd364a9597288c668"), looks := true }, kinds := [], alts := [], laidByText := true, laidKinds := [.data, .pinned], laidTests := true, laidLooks := .later }
def ShardWrongCardSaid : Prop := Claim7.holds Tryz.pinned (.plain (OpenSpec.ofChange shardWrongSpec)) shardWrongCard

/-- THE SECOND FORM's CARD OF 'sluicegatelaw25.ShardTurns'. -/
def shardTurnsUptoCard : Claim7 := { stood := { row := shardTurnsUptoRow, standIns := [], harness := (true, "5cf8f642c0cf986ed60b676836d8b817b85dddaf8cc7e20bd364a9597288c668"), looks := true }, kinds := [], alts := [], laidByText := true, laidKinds := [.data, .pinned], laidTests := true, laidLooks := .later }
def ShardTurnsUptoCardSaid : Prop := Claim7.holds Tryz.pinned (.plain (OpenSpec.upto shardTurnsSpec)) shardTurnsUptoCard

/-- THE SECOND FORM's CARD OF 'sluicegatelaw25.ShardWrong'. -/
def shardWrongUptoCard : Claim7 := { stood := { row := shardWrongUptoRow, standIns := [], harness := (true, "5cf8f642c0cf986ed60b676836d8b817b85dddaf8cc7e20bd364a9597288c668"), looks := true }, kinds := [], alts := [], laidByText := true, laidKinds := [.data, .pinned], laidTests := true, laidLooks := .later }
def ShardWrongUptoCardSaid : Prop := Claim7.holds Tryz.pinned (.plain (OpenSpec.upto shardWrongSpec)) shardWrongUptoCard
end Rows
end Go.Proofs.YtlkjleajcgifaaaGreatDoor
