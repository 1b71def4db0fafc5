/-
  DERIVED. GIVEN WITH THE SEED: THE CARDS: each row of YtiaheamhmhnodaaGreatDoorRows.lean that lists a variable, with what it lists TIED to the program's text (the seventh form; the later family's looks); each row that meets fmt, with fmt's text TOLD by the authors' own Lean function (tested against real Go, not proved from fmt's source: count such statements apart). THE CARD IS WHAT COUNTS. Prove the row's statement (the work); the ties are given (YtiaheamhmhnodaaGreatDoorTie.lean); close each card by the builder's one call (the guide's Derived/Test/ToyasCard.lean, 'card_holds'). Laid BY PROGRAM, IN A SANDBOX (cutbox-door.mjs). By AI agents, Wed Nov 11 2026. No macro, syntax, notation, axiom, sorry.
-/
import Derived.Test.YtiaheamhmhnodaaGreatDoorRows
import GoSem.ClaimSeven
namespace Go.Proofs.YtiaheamhmhnodaaGreatDoor
namespace Rows

/-- THE TIED CARD OF 'securelinklaw10.MsgReads'. -/
def msgReadsCard : Claim7 := { stood := { row := msgReadsRow, standIns := [], harness := (true, "ac64ef5feb7cf57a06c2d7e5a86ff24b95d8724d04054757799c4a298dfdfd01"), looks := true }, kinds := [], alts := [], laidByText := true, laidKinds := [.funcs, .funcs], laidTests := true, laidLooks := .later }
def MsgReadsCardSaid : Prop := Claim7.holds Tryz.pinned (.plain (OpenSpec.ofChange msgReadsSpec)) msgReadsCard

/-- THE SECOND FORM's CARD OF 'securelinklaw10.MsgReads'. -/
def msgReadsUptoCard : Claim7 := { stood := { row := msgReadsUptoRow, standIns := [], harness := (true, "ac64ef5feb7cf57a06c2d7e5a86ff24b95d8724d04054757799c4a298dfdfd01"), looks := true }, kinds := [], alts := [], laidByText := true, laidKinds := [.funcs, .funcs], laidTests := true, laidLooks := .later }
def MsgReadsUptoCardSaid : Prop := Claim7.holds Tryz.pinned (.plain (OpenSpec.upto msgReadsSpec)) msgReadsUptoCard
end Rows
end Go.Proofs.YtiaheamhmhnodaaGreatDoor
