/-
  DERIVED. GIVEN WITH THE SEED: THE CARDS: each row of YtedoeadhbcjjgaaDoorRows.lean that lists a variable, with what it lists TIED to the program's text (the seventh form; the later family's looks); each row that meets fmt, with fmt's text TOLD by the authors' own Lean function (tested against real Go, not proved from fmt's source: count such statements apart). THE CARD IS WHAT COUNTS. Prove the row's statement (the work); the ties are given (YtedoeadhbcjjgaaDoorTie.lean); close each card by the builder's one call (the guide's Derived/Test/ToyasCard.lean, 'card_holds'). Laid BY PROGRAM, IN A SANDBOX (cutbox-door.mjs). By AI agents, Wed Nov 11 2026. No macro, syntax, notation, axiom, sorry.
-/
import Derived.Test.YtedoeadhbcjjgaaDoorRows
import GoSem.ClaimSeven
namespace Go.Proofs.YtedoeadhbcjjgaaDoor
namespace Rows

/-- THE TIED CARD OF 'rosettelaw25.RecurShortest'. -/
def recurShortestCard : Claim7 := { stood := { row := recurShortestRow, standIns := [], harness := (true, "98b8187d5c4c1d4046bbc378db9bd4178bc488661cefde3e59041383e64739fa"), looks := false }, kinds := [], alts := [], laidByText := true, laidKinds := [.data], laidTests := true, laidLooks := .later }
def RecurShortestCardSaid : Prop := Claim7.holds Tryd.pinned (.plain (OpenSpec.ofChange recurShortestSpec)) recurShortestCard

/-- THE TIED CARD OF 'rosettelaw25.RecurAny'. -/
def recurAnyCard : Claim7 := { stood := { row := recurAnyRow, standIns := [], harness := (true, "98b8187d5c4c1d4046bbc378db9bd4178bc488661cefde3e59041383e64739fa"), looks := false }, kinds := [], alts := [], laidByText := true, laidKinds := [.data], laidTests := true, laidLooks := .later }
def RecurAnyCardSaid : Prop := Claim7.holds Tryd.pinned (.plain (OpenSpec.ofChange recurAnySpec)) recurAnyCard

/-- THE SECOND FORM's CARD OF 'rosettelaw25.RecurShortest'. -/
def recurShortestUptoCard : Claim7 := { stood := { row := recurShortestUptoRow, standIns := [], harness := (true, "98b8187d5c4c1d4046bbc378db9bd4178bc488661cefde3e59041383e64739fa"), looks := false }, kinds := [], alts := [], laidByText := true, laidKinds := [.data], laidTests := true, laidLooks := .later }
def RecurShortestUptoCardSaid : Prop := Claim7.holds Tryd.pinned (.plain (OpenSpec.upto recurShortestSpec)) recurShortestUptoCard

/-- THE SECOND FORM's CARD OF 'rosettelaw25.RecurAny'. -/
def recurAnyUptoCard : Claim7 := { stood := { row := recurAnyUptoRow, standIns := [], harness := (true, "98b8187d5c4c1d4046bbc378db9bd4178bc488661cefde3e59041383e64739fa"), looks := false }, kinds := [], alts := [], laidByText := true, laidKinds := [.data], laidTests := true, laidLooks := .later }
def RecurAnyUptoCardSaid : Prop := Claim7.holds Tryd.pinned (.plain (OpenSpec.upto recurAnySpec)) recurAnyUptoCard
end Rows
end Go.Proofs.YtedoeadhbcjjgaaDoor
