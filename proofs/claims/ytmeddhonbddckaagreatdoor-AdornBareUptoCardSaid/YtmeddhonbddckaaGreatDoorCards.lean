/-
  DERIVED. GIVEN WITH THE SEED: THE CARDS: each row of YtmeddhonbddckaaGreatDoorRows.lean that lists a variable, with what it lists TIED to the program's text (the seventh form; the later family's looks); each row that meets fmt, with fmt's text TOLD by the authors' own Lean function (tested against real Go, not proved from fmt's source: count such statements apart). THE CARD IS WHAT COUNTS. Prove the row's statement (the work); the ties are given (YtmeddhonbddckaaGreatDoorTie.lean); close each card by the builder's one call (the guide's Derived/Test/ToyasCard.lean, 'card_holds'). Laid BY PROGRAM, IN A SANDBOX (cutbox-door.mjs). By AI agents, Wed Nov 11 2026. No macro, syntax, notation, axiom, sorry.
-/
import Derived.Test.YtmeddhonbddckaaGreatDoorRows
import GoSem.ClaimSeven
namespace Go.Proofs.YtmeddhonbddckaaGreatDoor
namespace Rows

/-- THE TIED CARD OF 'pedigreelaw18.AdornPatterns'. -/
def adornPatternsCard : Claim7 := { stood := { row := adornPatternsRow, standIns := [], harness := (true, "6f39dde9602486b651f0dfd92586a633c0c719f1d27b4497e135d15ba24726f9"), looks := true }, kinds := [], alts := [], laidByText := true, laidKinds := [.data, .data, .data], laidTests := true, laidLooks := .later }
def AdornPatternsCardSaid : Prop := Claim7.holds Tryz.pinned (.plain (OpenSpec.ofChange adornPatternsSpec)) adornPatternsCard

/-- THE TIED CARD OF 'pedigreelaw18.AdornOnce'. -/
def adornOnceCard : Claim7 := { stood := { row := adornOnceRow, standIns := [], harness := (true, "6f39dde9602486b651f0dfd92586a633c0c719f1d27b4497e135d15ba24726f9"), looks := true }, kinds := [], alts := [], laidByText := true, laidKinds := [.data, .data, .data], laidTests := true, laidLooks := .later }
def AdornOnceCardSaid : Prop := Claim7.holds Tryz.pinned (.plain (OpenSpec.ofChange adornOnceSpec)) adornOnceCard

/-- THE TIED CARD OF 'pedigreelaw18.AdornBare'. -/
def adornBareCard : Claim7 := { stood := { row := adornBareRow, standIns := [], harness := (true, "6f39dde9602486b651f0dfd92586a633c0c719f1d27b4497e135d15ba24726f9"), looks := true }, kinds := [], alts := [], laidByText := true, laidKinds := [.data, .data, .data], laidTests := true, laidLooks := .later }
def AdornBareCardSaid : Prop := Claim7.holds Tryz.pinned (.plain (OpenSpec.ofChange adornBareSpec)) adornBareCard

/-- THE SECOND FORM's CARD OF 'pedigreelaw18.AdornPatterns'. -/
def adornPatternsUptoCard : Claim7 := { stood := { row := adornPatternsUptoRow, standIns := [], harness := (true, "6f39dde9602486b651f0dfd92586a633c0c719f1d27b4497e135d15ba24726f9"), looks := true }, kinds := [], alts := [], laidByText := true, laidKinds := [.data, .data, .data], laidTests := true, laidLooks := .later }
def AdornPatternsUptoCardSaid : Prop := Claim7.holds Tryz.pinned (.plain (OpenSpec.upto adornPatternsSpec)) adornPatternsUptoCard

/-- THE SECOND FORM's CARD OF 'pedigreelaw18.AdornOnce'. -/
def adornOnceUptoCard : Claim7 := { stood := { row := adornOnceUptoRow, standIns := [], harness := (true, "6f39dde9602486b651f0dfd92586a633c0c719f1d27b4497e135d15ba24726f9"), looks := true }, kinds := [], alts := [], laidByText := true, laidKinds := [.data, .data, .data], laidTests := true, laidLooks := .later }
def AdornOnceUptoCardSaid : Prop := Claim7.holds Tryz.pinned (.plain (OpenSpec.upto adornOnceSpec)) adornOnceUptoCard

/-- THE SECOND FORM's CARD OF 'pedigreelaw18.AdornBare'. -/
def adornBareUptoCard : Claim7 := { stood := { row := adornBareUptoRow, standIns := [], harness := (true, "6f39dde9602486b651f0dfd92586a633c0c719f1d27b4497e135d15ba24726f9"), looks := true }, kinds := [], alts := [], laidByText := true, laidKinds := [.data, .data, .data], laidTests := true, laidLooks := .later }
def AdornBareUptoCardSaid : Prop := Claim7.holds Tryz.pinned (.plain (OpenSpec.upto adornBareSpec)) adornBareUptoCard
end Rows
end Go.Proofs.YtmeddhonbddckaaGreatDoor
