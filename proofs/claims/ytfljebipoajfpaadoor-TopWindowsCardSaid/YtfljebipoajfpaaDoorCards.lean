/-
  DERIVED. GIVEN WITH THE SEED: THE CARDS: each row of YtfljebipoajfpaaDoorRows.lean that lists a variable, with what it lists TIED to the program's text (the seventh form; the later family's looks); each row that meets fmt, with fmt's text TOLD by the authors' own Lean function (tested against real Go, not proved from fmt's source: count such statements apart). THE CARD IS WHAT COUNTS. Prove the row's statement (the work); the ties are given (YtfljebipoajfpaaDoorTie.lean); close each card by the builder's one call (the guide's Derived/Test/ToyasCard.lean, 'card_holds'). Laid BY PROGRAM, IN A SANDBOX (cutbox-door.mjs). By AI agents, Wed Nov 11 2026. No macro, syntax, notation, axiom, sorry.
-/
import Derived.Test.YtfljebipoajfpaaDoorRows
import GoSem.ClaimSeven
namespace Go.Proofs.YtfljebipoajfpaaDoor
namespace Rows

/-- THE TIED CARD OF 'adittop.TopWindows'. -/
def topWindowsCard : Claim7 := { stood := { row := topWindowsRow, standIns := [], harness := (true, "041714207339642a0fc72cbcacd07032a6ce974e3edca107daa48e982cb2f6a4"), looks := true }, kinds := [], alts := [], laidByText := true, laidKinds := [.data, .data, .data, .data, .sentinel, .sentinel, .pinned], laidTests := true, laidLooks := .later }
def TopWindowsCardSaid : Prop := Claim7.holds Tryd.pinned (.plain (OpenSpec.ofChange topWindowsSpec)) topWindowsCard

/-- THE TIED CARD OF 'adittop.TopRates'. -/
def topRatesCard : Claim7 := { stood := { row := topRatesRow, standIns := [], harness := (true, "041714207339642a0fc72cbcacd07032a6ce974e3edca107daa48e982cb2f6a4"), looks := true }, kinds := [], alts := [], laidByText := true, laidKinds := [.data, .data, .data, .data, .sentinel, .sentinel, .pinned], laidTests := true, laidLooks := .later }
def TopRatesCardSaid : Prop := Claim7.holds Tryd.pinned (.plain (OpenSpec.ofChange topRatesSpec)) topRatesCard

/-- THE TIED CARD OF 'adittop.TopPackets'. -/
def topPacketsCard : Claim7 := { stood := { row := topPacketsRow, standIns := [], harness := (true, "041714207339642a0fc72cbcacd07032a6ce974e3edca107daa48e982cb2f6a4"), looks := true }, kinds := [], alts := [], laidByText := true, laidKinds := [.data, .data, .data, .data, .sentinel, .sentinel, .pinned], laidTests := true, laidLooks := .later }
def TopPacketsCardSaid : Prop := Claim7.holds Tryd.pinned (.plain (OpenSpec.ofChange topPacketsSpec)) topPacketsCard

/-- THE SECOND FORM's CARD OF 'adittop.TopWindows'. -/
def topWindowsUptoCard : Claim7 := { stood := { row := topWindowsUptoRow, standIns := [], harness := (true, "041714207339642a0fc72cbcacd07032a6ce974e3edca107daa48e982cb2f6a4"), looks := true }, kinds := [], alts := [], laidByText := true, laidKinds := [.data, .data, .data, .data, .sentinel, .sentinel, .pinned], laidTests := true, laidLooks := .later }
def TopWindowsUptoCardSaid : Prop := Claim7.holds Tryd.pinned (.plain (OpenSpec.upto topWindowsSpec)) topWindowsUptoCard

/-- THE SECOND FORM's CARD OF 'adittop.TopRates'. -/
def topRatesUptoCard : Claim7 := { stood := { row := topRatesUptoRow, standIns := [], harness := (true, "041714207339642a0fc72cbcacd07032a6ce974e3edca107daa48e982cb2f6a4"), looks := true }, kinds := [], alts := [], laidByText := true, laidKinds := [.data, .data, .data, .data, .sentinel, .sentinel, .pinned], laidTests := true, laidLooks := .later }
def TopRatesUptoCardSaid : Prop := Claim7.holds Tryd.pinned (.plain (OpenSpec.upto topRatesSpec)) topRatesUptoCard

/-- THE SECOND FORM's CARD OF 'adittop.TopPackets'. -/
def topPacketsUptoCard : Claim7 := { stood := { row := topPacketsUptoRow, standIns := [], harness := (true, "041714207339642a0fc72cbcacd07032a6ce974e3edca107daa48e982cb2f6a4"), looks := true }, kinds := [], alts := [], laidByText := true, laidKinds := [.data, .data, .data, .data, .sentinel, .sentinel, .pinned], laidTests := true, laidLooks := .later }
def TopPacketsUptoCardSaid : Prop := Claim7.holds Tryd.pinned (.plain (OpenSpec.upto topPacketsSpec)) topPacketsUptoCard
end Rows
end Go.Proofs.YtfljebipoajfpaaDoor
