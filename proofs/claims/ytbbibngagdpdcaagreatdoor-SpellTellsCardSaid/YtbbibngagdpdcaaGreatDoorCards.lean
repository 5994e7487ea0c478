/-
  DERIVED. GIVEN WITH THE SEED: THE CARDS: each row of YtbbibngagdpdcaaGreatDoorRows.lean that lists a variable, with what it lists TIED to the program's text (the seventh form; the later family's looks); each row that meets fmt, with fmt's text TOLD by the authors' own Lean function (tested against real Go, not proved from fmt's source: count such statements apart). THE CARD IS WHAT COUNTS. Prove the row's statement (the work); the ties are given (YtbbibngagdpdcaaGreatDoorTie.lean); close each card by the builder's one call (the guide's Derived/Test/ToyasCard.lean, 'card_holds'). Laid BY PROGRAM, IN A SANDBOX (cutbox-door.mjs). By AI agents, Wed Nov 11 2026. No macro, syntax, notation, axiom, sorry.
-/
import Derived.Test.YtbbibngagdpdcaaGreatDoorRows
import GoSem.ClaimSeven
namespace Go.Proofs.YtbbibngagdpdcaaGreatDoor
namespace Rows

/-- THE TIED CARD OF 'oriellaw16.SpellTells'. -/
def spellTellsCard : Claim7 := { stood := { row := spellTellsRow, standIns := [], harness := (true, "7e27b2e369e4432b9e766625081534012a56e9657a04a47e8c19131bc5adef55"), looks := false }, kinds := [], alts := [], laidByText := true, laidKinds := [.data, .data, .data], laidTests := true, laidLooks := .later }
def SpellTellsCardSaid : Prop := Claim7.holds Tryz.pinned (.plain (OpenSpec.ofChange spellTellsSpec)) spellTellsCard

/-- THE SECOND FORM's CARD OF 'oriellaw16.SpellTells'. -/
def spellTellsUptoCard : Claim7 := { stood := { row := spellTellsUptoRow, standIns := [], harness := (true, "7e27b2e369e4432b9e766625081534012a56e9657a04a47e8c19131bc5adef55"), looks := false }, kinds := [], alts := [], laidByText := true, laidKinds := [.data, .data, .data], laidTests := true, laidLooks := .later }
def SpellTellsUptoCardSaid : Prop := Claim7.holds Tryz.pinned (.plain (OpenSpec.upto spellTellsSpec)) spellTellsUptoCard
end Rows
end Go.Proofs.YtbbibngagdpdcaaGreatDoor
