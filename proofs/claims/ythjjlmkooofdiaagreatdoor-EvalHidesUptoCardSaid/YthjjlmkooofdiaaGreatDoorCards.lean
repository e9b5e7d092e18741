/-
  DERIVED. GIVEN WITH THE SEED: THE CARDS: each row of YthjjlmkooofdiaaGreatDoorRows.lean that lists a variable, with what it lists TIED to the program's text (the seventh form; the later family's looks); each row that meets fmt, with fmt's text TOLD by the authors' own Lean function (tested against real Go, not proved from fmt's source: count such statements apart). THE CARD IS WHAT COUNTS. Prove the row's statement (the work); the ties are given (YthjjlmkooofdiaaGreatDoorTie.lean); close each card by the builder's one call (the guide's Derived/Test/ToyasCard.lean, 'card_holds'). Laid BY PROGRAM, IN A SANDBOX (cutbox-door.mjs). By AI agents, Wed Nov 11 2026. No macro, syntax, notation, axiom, sorry.
-/
import Derived.Test.YthjjlmkooofdiaaGreatDoorRows
import GoSem.ClaimSeven
namespace Go.Proofs.YthjjlmkooofdiaaGreatDoor
namespace Rows

/-- THE TIED CARD OF 'tapestrylaw18.EvalFuel'. -/
def evalFuelCard : Claim7 := { stood := { row := evalFuelRow, standIns := [], harness := (true, "c4a1c791f35d0b580488d6b295edb5a2d2bfa2f949bd4f5a5ddf382302d1ccc2"), looks := false }, kinds := [], alts := [], laidByText := true, laidKinds := [.data, .data, .data], laidTests := true, laidLooks := .later }
def EvalFuelCardSaid : Prop := Claim7.holds Tryz.pinned (.plain (OpenSpec.ofChange evalFuelSpec)) evalFuelCard

/-- THE TIED CARD OF 'tapestrylaw18.EvalRest'. -/
def evalRestCard : Claim7 := { stood := { row := evalRestRow, standIns := [], harness := (true, "c4a1c791f35d0b580488d6b295edb5a2d2bfa2f949bd4f5a5ddf382302d1ccc2"), looks := false }, kinds := [], alts := [], laidByText := true, laidKinds := [.data, .data, .data], laidTests := true, laidLooks := .later }
def EvalRestCardSaid : Prop := Claim7.holds Tryz.pinned (.plain (OpenSpec.ofChange evalRestSpec)) evalRestCard

/-- THE TIED CARD OF 'tapestrylaw18.EvalHides'. -/
def evalHidesCard : Claim7 := { stood := { row := evalHidesRow, standIns := [], harness := (true, "c4a1c791f35d0b580488d6b295edb5a2d2bfa2f949bd4f5a5ddf382302d1ccc2"), looks := false }, kinds := [], alts := [], laidByText := true, laidKinds := [.data, .data, .data], laidTests := true, laidLooks := .later }
def EvalHidesCardSaid : Prop := Claim7.holds Tryz.pinned (.plain (OpenSpec.ofChange evalHidesSpec)) evalHidesCard

/-- THE SECOND FORM's CARD OF 'tapestrylaw18.EvalFuel'. -/
def evalFuelUptoCard : Claim7 := { stood := { row := evalFuelUptoRow, standIns := [], harness := (true, "c4a1c791f35d0b580488d6b295edb5a2d2bfa2f949bd4f5a5ddf382302d1ccc2"), looks := false }, kinds := [], alts := [], laidByText := true, laidKinds := [.data, .data, .data], laidTests := true, laidLooks := .later }
def EvalFuelUptoCardSaid : Prop := Claim7.holds Tryz.pinned (.plain (OpenSpec.upto evalFuelSpec)) evalFuelUptoCard

/-- THE SECOND FORM's CARD OF 'tapestrylaw18.EvalRest'. -/
def evalRestUptoCard : Claim7 := { stood := { row := evalRestUptoRow, standIns := [], harness := (true, "c4a1c791f35d0b580488d6b295edb5a2d2bfa2f949bd4f5a5ddf382302d1ccc2"), looks := false }, kinds := [], alts := [], laidByText := true, laidKinds := [.data, .data, .data], laidTests := true, laidLooks := .later }
def EvalRestUptoCardSaid : Prop := Claim7.holds Tryz.pinned (.plain (OpenSpec.upto evalRestSpec)) evalRestUptoCard

/-- THE SECOND FORM's CARD OF 'tapestrylaw18.EvalHides'. -/
def evalHidesUptoCard : Claim7 := { stood := { row := evalHidesUptoRow, standIns := [], harness := (true, "c4a1c791f35d0b580488d6b295edb5a2d2bfa2f949bd4f5a5ddf382302d1ccc2"), looks := false }, kinds := [], alts := [], laidByText := true, laidKinds := [.data, .data, .data], laidTests := true, laidLooks := .later }
def EvalHidesUptoCardSaid : Prop := Claim7.holds Tryz.pinned (.plain (OpenSpec.upto evalHidesSpec)) evalHidesUptoCard
end Rows
end Go.Proofs.YthjjlmkooofdiaaGreatDoor
