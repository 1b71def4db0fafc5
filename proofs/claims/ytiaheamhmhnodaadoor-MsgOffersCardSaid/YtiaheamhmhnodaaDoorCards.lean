/-
  DERIVED. GIVEN WITH THE SEED: THE CARDS: each row of YtiaheamhmhnodaaDoorRows.lean that lists a variable, with what it lists TIED to the program's text (the seventh form; the later family's looks); each row that meets fmt, with fmt's text TOLD by the authors' own Lean function (tested against real Go, not proved from fmt's source: count such statements apart). THE CARD IS WHAT COUNTS. Prove the row's statement (the work); the ties are given (YtiaheamhmhnodaaDoorTie.lean); close each card by the builder's one call (the guide's Derived/Test/ToyasCard.lean, 'card_holds'). Laid BY PROGRAM, IN A SANDBOX (cutbox-door.mjs). By AI agents, Wed Nov 11 2026. No macro, syntax, notation, axiom, sorry.
-/
import Derived.Test.YtiaheamhmhnodaaDoorRows
import GoSem.ClaimSeven
namespace Go.Proofs.YtiaheamhmhnodaaDoor
namespace Rows

/-- THE TIED CARD OF 'securelinklaw10.MsgOffers'. -/
def msgOffersCard : Claim7 := { stood := { row := msgOffersRow, standIns := [], harness := (true, "67f26e76d75d55c14879dc26bb31f870e15b36938e5700170da88ff1a9b88f3a"), looks := true }, kinds := [], alts := [], laidByText := true, laidKinds := [.funcs, .funcs], laidTests := true, laidLooks := .later }
def MsgOffersCardSaid : Prop := Claim7.holds Tryd.pinned (.plain (OpenSpec.ofChange msgOffersSpec)) msgOffersCard

/-- THE SECOND FORM's CARD OF 'securelinklaw10.MsgOffers'. -/
def msgOffersUptoCard : Claim7 := { stood := { row := msgOffersUptoRow, standIns := [], harness := (true, "67f26e76d75d55c14879dc26bb31f870e15b36938e5700170da88ff1a9b88f3a"), looks := true }, kinds := [], alts := [], laidByText := true, laidKinds := [.funcs, .funcs], laidTests := true, laidLooks := .later }
def MsgOffersUptoCardSaid : Prop := Claim7.holds Tryd.pinned (.plain (OpenSpec.upto msgOffersSpec)) msgOffersUptoCard
end Rows
end Go.Proofs.YtiaheamhmhnodaaDoor
