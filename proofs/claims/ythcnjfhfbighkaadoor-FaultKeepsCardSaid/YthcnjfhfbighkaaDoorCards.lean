/-
  DERIVED. GIVEN WITH THE SEED: THE CARDS: each row of YthcnjfhfbighkaaDoorRows.lean that lists a variable, with what it lists TIED to the program's text (the seventh form; the later family's looks); each row that meets fmt, with fmt's text TOLD by the authors' own Lean function (tested against real Go, not proved from fmt's source: count such statements apart). THE CARD IS WHAT COUNTS. Prove the row's statement (the work); the ties are given (YthcnjfhfbighkaaDoorTie.lean); close each card by the builder's one call (the guide's Derived/Test/ToyasCard.lean, 'card_holds'). Laid BY PROGRAM, IN A SANDBOX (cutbox-door.mjs). By AI agents, Wed Nov 11 2026. No macro, syntax, notation, axiom, sorry.
-/
import Derived.Test.YthcnjfhfbighkaaDoorRows
import GoSem.ClaimSeven
namespace Go.Proofs.YthcnjfhfbighkaaDoor
namespace Rows

/-- THE TIED CARD OF 'cutwaterlaw02.FaultWraps'. -/
def faultWrapsCard : Claim7 := { stood := { row := faultWrapsRow, standIns := [], harness := (true, "9d949f236b2d91cd6972b04a7bc8b492ca67773a58962a58db8c44611596708e"), looks := true }, kinds := [], alts := [], laidByText := true, laidKinds := [.handle], laidTests := true, laidLooks := .later }
def FaultWrapsCardSaid : Prop := Claim7.holds Tryd.pinned (.plain (OpenSpec.ofChange faultWrapsSpec)) faultWrapsCard

/-- THE TIED CARD OF 'cutwaterlaw02.FaultFirsts'. -/
def faultFirstsCard : Claim7 := { stood := { row := faultFirstsRow, standIns := [], harness := (true, "9d949f236b2d91cd6972b04a7bc8b492ca67773a58962a58db8c44611596708e"), looks := true }, kinds := [], alts := [], laidByText := true, laidKinds := [.handle], laidTests := true, laidLooks := .later }
def FaultFirstsCardSaid : Prop := Claim7.holds Tryd.pinned (.plain (OpenSpec.ofChange faultFirstsSpec)) faultFirstsCard

/-- THE TIED CARD OF 'cutwaterlaw02.FaultAsks'. -/
def faultAsksCard : Claim7 := { stood := { row := faultAsksRow, standIns := [], harness := (true, "9d949f236b2d91cd6972b04a7bc8b492ca67773a58962a58db8c44611596708e"), looks := true }, kinds := [], alts := [], laidByText := true, laidKinds := [.handle], laidTests := true, laidLooks := .later }
def FaultAsksCardSaid : Prop := Claim7.holds Tryd.pinned (.plain (OpenSpec.ofChange faultAsksSpec)) faultAsksCard

/-- THE TIED CARD OF 'cutwaterlaw02.FaultKeeps'. -/
def faultKeepsCard : Claim7 := { stood := { row := faultKeepsRow, standIns := [], harness := (true, "9d949f236b2d91cd6972b04a7bc8b492ca67773a58962a58db8c44611596708e"), looks := true }, kinds := [], alts := [], laidByText := true, laidKinds := [.handle], laidTests := true, laidLooks := .later }
def FaultKeepsCardSaid : Prop := Claim7.holds Tryd.pinned (.plain (OpenSpec.ofChange faultKeepsSpec)) faultKeepsCard

/-- THE SECOND FORM's CARD OF 'cutwaterlaw02.FaultWraps'. -/
def faultWrapsUptoCard : Claim7 := { stood := { row := faultWrapsUptoRow, standIns := [], harness := (true, "9d949f236b2d91cd6972b04a7bc8b492ca67773a58962a58db8c44611596708e"), looks := true }, kinds := [], alts := [], laidByText := true, laidKinds := [.handle], laidTests := true, laidLooks := .later }
def FaultWrapsUptoCardSaid : Prop := Claim7.holds Tryd.pinned (.plain (OpenSpec.upto faultWrapsSpec)) faultWrapsUptoCard

/-- THE SECOND FORM's CARD OF 'cutwaterlaw02.FaultFirsts'. -/
def faultFirstsUptoCard : Claim7 := { stood := { row := faultFirstsUptoRow, standIns := [], harness := (true, "9d949f236b2d91cd6972b04a7bc8b492ca67773a58962a58db8c44611596708e"), looks := true }, kinds := [], alts := [], laidByText := true, laidKinds := [.handle], laidTests := true, laidLooks := .later }
def FaultFirstsUptoCardSaid : Prop := Claim7.holds Tryd.pinned (.plain (OpenSpec.upto faultFirstsSpec)) faultFirstsUptoCard

/-- THE SECOND FORM's CARD OF 'cutwaterlaw02.FaultAsks'. -/
def faultAsksUptoCard : Claim7 := { stood := { row := faultAsksUptoRow, standIns := [], harness := (true, "9d949f236b2d91cd6972b04a7bc8b492ca67773a58962a58db8c44611596708e"), looks := true }, kinds := [], alts := [], laidByText := true, laidKinds := [.handle], laidTests := true, laidLooks := .later }
def FaultAsksUptoCardSaid : Prop := Claim7.holds Tryd.pinned (.plain (OpenSpec.upto faultAsksSpec)) faultAsksUptoCard

/-- THE SECOND FORM's CARD OF 'cutwaterlaw02.FaultKeeps'. -/
def faultKeepsUptoCard : Claim7 := { stood := { row := faultKeepsUptoRow, standIns := [], harness := (true, "9d949f236b2d91cd6972b04a7bc8b492ca67773a58962a58db8c44611596708e"), looks := true }, kinds := [], alts := [], laidByText := true, laidKinds := [.handle], laidTests := true, laidLooks := .later }
def FaultKeepsUptoCardSaid : Prop := Claim7.holds Tryd.pinned (.plain (OpenSpec.upto faultKeepsSpec)) faultKeepsUptoCard
end Rows
end Go.Proofs.YthcnjfhfbighkaaDoor
