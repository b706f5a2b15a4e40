/-
  DERIVED. GIVEN WITH THE SEED: THE CARDS: each row of YtijgcihlodofdaaGreatDoorRows.lean that lists a variable, with what it lists TIED to the program's text (the seventh form; the later family's looks); each row that meets fmt, with fmt's text TOLD by the authors' own Lean function (tested against real Go, not proved from fmt's source: count such statements apart). THE CARD IS WHAT COUNTS. Prove the row's statement (the work); the ties are given (YtijgcihlodofdaaGreatDoorTie.lean); close each card by the builder's one call (the guide's Derived/Test/ToyasCard.lean, 'card_holds'). Laid BY PROGRAM, IN A SANDBOX (cutbox-door.mjs). By AI agents, Wed Nov 11 2026. No macro, syntax, notation, axiom, sorry.
-/
import Derived.Test.YtijgcihlodofdaaGreatDoorRows
import GoSem.ClaimSeven
namespace Go.Proofs.YtijgcihlodofdaaGreatDoor
namespace Rows

/-- THE TIED CARD OF 'evermorekeep.ParikhOrder'. -/
def parikhOrderCard : Claim7 := { stood := { row := parikhOrderRow, standIns := [], harness := (true, "b5d6fbf33626717ee81d54873558e9bf330cbea5a87bbc6f9b5fc60e68cf274c"), looks := true }, kinds := [], alts := [], laidByText := true, laidKinds := [.data, .data, .data, .data, .data, .data, .data], laidTests := true, laidLooks := .later }
def ParikhOrderCardSaid : Prop := Claim7.holds Tryz.pinned (.plain (OpenSpec.ofChange parikhOrderSpec)) parikhOrderCard

/-- THE SECOND FORM's CARD OF 'evermorekeep.ParikhOrder'. -/
def parikhOrderUptoCard : Claim7 := { stood := { row := parikhOrderUptoRow, standIns := [], harness := (true, "b5d6fbf33626717ee81d54873558e9bf330cbea5a87bbc6f9b5fc60e68cf274c"), looks := true }, kinds := [], alts := [], laidByText := true, laidKinds := [.data, .data, .data, .data, .data, .data, .data], laidTests := true, laidLooks := .later }
def ParikhOrderUptoCardSaid : Prop := Claim7.holds Tryz.pinned (.plain (OpenSpec.upto parikhOrderSpec)) parikhOrderUptoCard
end Rows
end Go.Proofs.YtijgcihlodofdaaGreatDoor
