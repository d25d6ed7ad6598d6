/-
  DERIVED. GIVEN WITH THE SEED: THE CARDS: each row of YtffhmjlojmoomaaGreatDoorRows.lean that lists a variable, with what it lists TIED to the program's text (the seventh form; the later family's looks); each row that meets fmt, with fmt's text TOLD by the authors' own Lean function (tested against real Go, not proved from fmt's source: count such statements apart). THE CARD IS WHAT COUNTS. Prove the row's statement (the work); the ties are given (YtffhmjlojmoomaaGreatDoorTie.lean); close each card by the builder's one call (the guide's Derived/Test/ToyasCard.lean, 'card_holds'). Laid BY PROGRAM, IN A SANDBOX (cutbox-door.mjs). By AI agents, Wed Nov 11 2026. No macro, syntax, notation, axiom, sorry.
-/
import Derived.Test.YtffhmjlojmoomaaGreatDoorRows
import GoSem.ClaimSeven
namespace Go.Proofs.YtffhmjlojmoomaaGreatDoor
namespace Rows

/-- THE TIED CARD OF 'diacritictop.TopThrough'. -/
def topThroughCard : Claim7 := { stood := { row := topThroughRow, standIns := [], harness := (true, "d60b04a688b19e9bf531f29c8767fe85a2c07a3f783bc96b3942d311b6d4ddcb"), looks := false }, kinds := [], alts := [], laidByText := true, laidKinds := [.data, .data, .pinned], laidTests := true, laidLooks := .later }
def TopThroughCardSaid : Prop := Claim7.holds Tryz.pinned (.plain (OpenSpec.ofChange topThroughSpec)) topThroughCard

/-- THE TIED CARD OF 'diacritictop.TopPairs'. -/
def topPairsCard : Claim7 := { stood := { row := topPairsRow, standIns := [], harness := (true, "d60b04a688b19e9bf531f29c8767fe85a2c07a3f783bc96b3942d311b6d4ddcb"), looks := false }, kinds := [], alts := [], laidByText := true, laidKinds := [.data, .data, .pinned], laidTests := true, laidLooks := .later }
def TopPairsCardSaid : Prop := Claim7.holds Tryz.pinned (.plain (OpenSpec.ofChange topPairsSpec)) topPairsCard

/-- THE SECOND FORM's CARD OF 'diacritictop.TopThrough'. -/
def topThroughUptoCard : Claim7 := { stood := { row := topThroughUptoRow, standIns := [], harness := (true, "d60b04a688b19e9bf531f29c8767fe85a2c07a3f783bc96b3942d311b6d4ddcb"), looks := false }, kinds := [], alts := [], laidByText := true, laidKinds := [.data, .data, .pinned], laidTests := true, laidLooks := .later }
def TopThroughUptoCardSaid : Prop := Claim7.holds Tryz.pinned (.plain (OpenSpec.upto topThroughSpec)) topThroughUptoCard

/-- THE SECOND FORM's CARD OF 'diacritictop.TopPairs'. -/
def topPairsUptoCard : Claim7 := { stood := { row := topPairsUptoRow, standIns := [], harness := (true, "d60b04a688b19e9bf531f29c8767fe85a2c07a3f783bc96b3942d311b6d4ddcb"), looks := false }, kinds := [], alts := [], laidByText := true, laidKinds := [.data, .data, .pinned], laidTests := true, laidLooks := .later }
def TopPairsUptoCardSaid : Prop := Claim7.holds Tryz.pinned (.plain (OpenSpec.upto topPairsSpec)) topPairsUptoCard
end Rows
end Go.Proofs.YtffhmjlojmoomaaGreatDoor
