/-
  DERIVED. GIVEN WITH THE SEED: THE CARDS: each row of YteckjgngglpcaaaGreatDoorRows.lean that lists a variable, with what it lists TIED to the program's text (the seventh form; the later family's looks); each row that meets fmt, with fmt's text TOLD by the authors' own Lean function (tested against real Go, not proved from fmt's source: count such statements apart). THE CARD IS WHAT COUNTS. Prove the row's statement (the work); the ties are given (YteckjgngglpcaaaGreatDoorTie.lean); close each card by the builder's one call (the guide's Derived/Test/ToyasCard.lean, 'card_holds'). Laid BY PROGRAM, IN A SANDBOX (cutbox-door.mjs). By AI agents, Wed Nov 11 2026. No macro, syntax, notation, axiom, sorry.
-/
import Derived.Test.YteckjgngglpcaaaGreatDoorRows
import GoSem.ClaimSeven
namespace Go.Proofs.YteckjgngglpcaaaGreatDoor
namespace Rows

/-- THE TIED CARD OF 'murmurationlaw07.VmPacks'. -/
def vmPacksCard : Claim7 := { stood := { row := vmPacksRow, standIns := [], harness := (true, "727438b889bf5b0555a2b060b27537482d4054df97e06bcb2d335732bd8dae15"), looks := true }, kinds := [], alts := [], laidByText := true, laidKinds := [.data, .data, .pinned], laidTests := true, laidLooks := .later }
def VmPacksCardSaid : Prop := Claim7.holds Tryz.pinned (.plain (OpenSpec.ofChange vmPacksSpec)) vmPacksCard

/-- THE SECOND FORM's CARD OF 'murmurationlaw07.VmPacks'. -/
def vmPacksUptoCard : Claim7 := { stood := { row := vmPacksUptoRow, standIns := [], harness := (true, "727438b889bf5b0555a2b060b27537482d4054df97e06bcb2d335732bd8dae15"), looks := true }, kinds := [], alts := [], laidByText := true, laidKinds := [.data, .data, .pinned], laidTests := true, laidLooks := .later }
def VmPacksUptoCardSaid : Prop := Claim7.holds Tryz.pinned (.plain (OpenSpec.upto vmPacksSpec)) vmPacksUptoCard
end Rows
end Go.Proofs.YteckjgngglpcaaaGreatDoor
