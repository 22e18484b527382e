/-
  DERIVED. GIVEN WITH THE SEED: THE CARDS: each row of YtepmkkeaidacmaaDoorRows.lean that lists a variable, with what it lists TIED to the program's text (the seventh form; the later family's looks); each row that meets fmt, with fmt's text TOLD by the authors' own Lean function (tested against real Go, not proved from fmt's source: count such statements apart). THE CARD IS WHAT COUNTS. Prove the row's statement (the work); the ties are given (YtepmkkeaidacmaaDoorTie.lean); close each card by the builder's one call (the guide's Derived/Test/ToyasCard.lean, 'card_holds'). Laid BY PROGRAM, IN A SANDBOX (cutbox-door.mjs). By AI agents, Wed Nov 11 2026. No macro, syntax, notation, axiom, sorry.
-/
import Derived.Test.YtepmkkeaidacmaaDoorRows
import GoSem.ClaimSeven
namespace Go.Proofs.YtepmkkeaidacmaaDoor
namespace Rows

/-- THE TIED CARD OF 'arborlaw06.AclBack'. -/
def aclBackCard : Claim7 := { stood := { row := aclBackRow, standIns := [], harness := (true, "268d8604e2f168392bc7ecf216f00f74ce582728834d511b0cd106df62672e44"), looks := true }, kinds := [], alts := [], laidByText := true, laidKinds := [.data, .data, .data, .data, .sentinel, .sentinel, .pinned], laidTests := true, laidLooks := .later }
def AclBackCardSaid : Prop := Claim7.holds Tryd.pinned (.plain (OpenSpec.ofChange aclBackSpec)) aclBackCard

/-- THE SECOND FORM's CARD OF 'arborlaw06.AclBack'. -/
def aclBackUptoCard : Claim7 := { stood := { row := aclBackUptoRow, standIns := [], harness := (true, "268d8604e2f168392bc7ecf216f00f74ce582728834d511b0cd106df62672e44"), looks := true }, kinds := [], alts := [], laidByText := true, laidKinds := [.data, .data, .data, .data, .sentinel, .sentinel, .pinned], laidTests := true, laidLooks := .later }
def AclBackUptoCardSaid : Prop := Claim7.holds Tryd.pinned (.plain (OpenSpec.upto aclBackSpec)) aclBackUptoCard
end Rows
end Go.Proofs.YtepmkkeaidacmaaDoor
