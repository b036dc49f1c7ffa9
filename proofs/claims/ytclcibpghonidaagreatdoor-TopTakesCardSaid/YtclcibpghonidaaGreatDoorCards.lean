/-
  DERIVED. GIVEN WITH THE SEED: THE CARDS: each row of YtclcibpghonidaaGreatDoorRows.lean that lists a variable, with what it lists TIED to the program's text (the seventh form; the later family's looks); each row that meets fmt, with fmt's text TOLD by the authors' own Lean function (tested against real Go, not proved from fmt's source: count such statements apart). THE CARD IS WHAT COUNTS. Prove the row's statement (the work); the ties are given (YtclcibpghonidaaGreatDoorTie.lean); close each card by the builder's one call (the guide's Derived/Test/ToyasCard.lean, 'card_holds'). Laid BY PROGRAM, IN A SANDBOX (cutbox-door.mjs). By AI agents, Wed Nov 11 2026. No macro, syntax, notation, axiom, sorry.
-/
import Derived.Test.YtclcibpghonidaaGreatDoorRows
import GoSem.ClaimSeven
namespace Go.Proofs.YtclcibpghonidaaGreatDoor
namespace Rows

/-- THE TIED CARD OF 'cutwatertop.TopPost'. -/
def topPostCard : Claim7 := { stood := { row := topPostRow, standIns := [], harness := (true, "60ca34b1d8ba8292036b3028e84d48a0b437851fd5742611ef1842e08357fde0"), looks := false }, kinds := [], alts := [], laidByText := true, laidKinds := [.data, .pinned], laidTests := true, laidLooks := .later }
def TopPostCardSaid : Prop := Claim7.holds Tryz.pinned (.plain (OpenSpec.ofChange topPostSpec)) topPostCard

/-- THE TIED CARD OF 'cutwatertop.TopHands'. -/
def topHandsCard : Claim7 := { stood := { row := topHandsRow, standIns := [], harness := (true, "60ca34b1d8ba8292036b3028e84d48a0b437851fd5742611ef1842e08357fde0"), looks := false }, kinds := [], alts := [], laidByText := true, laidKinds := [.data, .pinned], laidTests := true, laidLooks := .later }
def TopHandsCardSaid : Prop := Claim7.holds Tryz.pinned (.plain (OpenSpec.ofChange topHandsSpec)) topHandsCard

/-- THE TIED CARD OF 'cutwatertop.TopTakes'. -/
def topTakesCard : Claim7 := { stood := { row := topTakesRow, standIns := [], harness := (true, "60ca34b1d8ba8292036b3028e84d48a0b437851fd5742611ef1842e08357fde0"), looks := false }, kinds := [], alts := [], laidByText := true, laidKinds := [.data, .pinned], laidTests := true, laidLooks := .later }
def TopTakesCardSaid : Prop := Claim7.holds Tryz.pinned (.plain (OpenSpec.ofChange topTakesSpec)) topTakesCard

/-- THE SECOND FORM's CARD OF 'cutwatertop.TopPost'. -/
def topPostUptoCard : Claim7 := { stood := { row := topPostUptoRow, standIns := [], harness := (true, "60ca34b1d8ba8292036b3028e84d48a0b437851fd5742611ef1842e08357fde0"), looks := false }, kinds := [], alts := [], laidByText := true, laidKinds := [.data, .pinned], laidTests := true, laidLooks := .later }
def TopPostUptoCardSaid : Prop := Claim7.holds Tryz.pinned (.plain (OpenSpec.upto topPostSpec)) topPostUptoCard

/-- THE SECOND FORM's CARD OF 'cutwatertop.TopHands'. -/
def topHandsUptoCard : Claim7 := { stood := { row := topHandsUptoRow, standIns := [], harness := (true, "60ca34b1d8ba8292036b3028e84d48a0b437851fd5742611ef1842e08357fde0"), looks := false }, kinds := [], alts := [], laidByText := true, laidKinds := [.data, .pinned], laidTests := true, laidLooks := .later }
def TopHandsUptoCardSaid : Prop := Claim7.holds Tryz.pinned (.plain (OpenSpec.upto topHandsSpec)) topHandsUptoCard

/-- THE SECOND FORM's CARD OF 'cutwatertop.TopTakes'. -/
def topTakesUptoCard : Claim7 := { stood := { row := topTakesUptoRow, standIns := [], harness := (true, "60ca34b1d8ba8292036b3028e84d48a0b437851fd5742611ef1842e08357fde0"), looks := false }, kinds := [], alts := [], laidByText := true, laidKinds := [.data, .pinned], laidTests := true, laidLooks := .later }
def TopTakesUptoCardSaid : Prop := Claim7.holds Tryz.pinned (.plain (OpenSpec.upto topTakesSpec)) topTakesUptoCard
end Rows
end Go.Proofs.YtclcibpghonidaaGreatDoor
