/-
  DERIVED. GIVEN WITH THE SEED: THE CARDS: each row of YtmdnhinpaflamaaDoorRows.lean that lists a variable, with what it lists TIED to the program's text (the seventh form; the later family's looks); each row that meets fmt, with fmt's text TOLD by the authors' own Lean function (tested against real Go, not proved from fmt's source: count such statements apart). THE CARD IS WHAT COUNTS. Prove the row's statement (the work); the ties are given (YtmdnhinpaflamaaDoorTie.lean); close each card by the builder's one call (the guide's Derived/Test/ToyasCard.lean, 'card_holds'). Laid BY PROGRAM, IN A SANDBOX (cutbox-door.mjs). By AI agents, Wed Nov 11 2026. No macro, syntax, notation, axiom, sorry.
-/
import Derived.Test.YtmdnhinpaflamaaDoorRows
import GoSem.ClaimSeven
namespace Go.Proofs.YtmdnhinpaflamaaDoor
namespace Rows

/-- THE TIED CARD OF 'quarantinelaw21.PlanMade'. -/
def planMadeCard : Claim7 := { stood := { row := planMadeRow, standIns := [], harness := (true, "a7b688b6b6566d830db96b8de30066cb07eb0ff44dbe40024bd15d50555675dd"), looks := false }, kinds := [], alts := [], laidByText := true, laidKinds := [.data, .data, .data, .data, .pinned], laidTests := true, laidLooks := .later }
def PlanMadeCardSaid : Prop := Claim7.holds Tryd.pinned (.plain (OpenSpec.ofChange planMadeSpec)) planMadeCard

/-- THE TIED CARD OF 'quarantinelaw21.PlanPasses'. -/
def planPassesCard : Claim7 := { stood := { row := planPassesRow, standIns := [], harness := (true, "a7b688b6b6566d830db96b8de30066cb07eb0ff44dbe40024bd15d50555675dd"), looks := false }, kinds := [], alts := [], laidByText := true, laidKinds := [.data, .data, .data, .data, .pinned], laidTests := true, laidLooks := .later }
def PlanPassesCardSaid : Prop := Claim7.holds Tryd.pinned (.plain (OpenSpec.ofChange planPassesSpec)) planPassesCard

/-- THE TIED CARD OF 'quarantinelaw8.ShowAll'. -/
def showAllCard : Claim7 := { stood := { row := showAllRow, standIns := [], harness := (true, "a7b688b6b6566d830db96b8de30066cb07eb0ff44dbe40024bd15d50555675dd"), looks := false }, kinds := [], alts := [], laidByText := true, laidKinds := [.data, .data, .data, .data, .pinned], laidTests := true, laidLooks := .later }
def ShowAllCardSaid : Prop := Claim7.holds Tryd.pinned (.plain (OpenSpec.ofChange showAllSpec)) showAllCard

/-- THE TIED CARD OF 'quarantinelaw8.ShowParsed'. -/
def showParsedCard : Claim7 := { stood := { row := showParsedRow, standIns := [], harness := (true, "a7b688b6b6566d830db96b8de30066cb07eb0ff44dbe40024bd15d50555675dd"), looks := false }, kinds := [], alts := [], laidByText := true, laidKinds := [.data, .data, .data, .data, .pinned], laidTests := true, laidLooks := .later }
def ShowParsedCardSaid : Prop := Claim7.holds Tryd.pinned (.plain (OpenSpec.ofChange showParsedSpec)) showParsedCard

/-- THE SECOND FORM's CARD OF 'quarantinelaw21.PlanMade'. -/
def planMadeUptoCard : Claim7 := { stood := { row := planMadeUptoRow, standIns := [], harness := (true, "a7b688b6b6566d830db96b8de30066cb07eb0ff44dbe40024bd15d50555675dd"), looks := false }, kinds := [], alts := [], laidByText := true, laidKinds := [.data, .data, .data, .data, .pinned], laidTests := true, laidLooks := .later }
def PlanMadeUptoCardSaid : Prop := Claim7.holds Tryd.pinned (.plain (OpenSpec.upto planMadeSpec)) planMadeUptoCard

/-- THE SECOND FORM's CARD OF 'quarantinelaw21.PlanPasses'. -/
def planPassesUptoCard : Claim7 := { stood := { row := planPassesUptoRow, standIns := [], harness := (true, "a7b688b6b6566d830db96b8de30066cb07eb0ff44dbe40024bd15d50555675dd"), looks := false }, kinds := [], alts := [], laidByText := true, laidKinds := [.data, .data, .data, .data, .pinned], laidTests := true, laidLooks := .later }
def PlanPassesUptoCardSaid : Prop := Claim7.holds Tryd.pinned (.plain (OpenSpec.upto planPassesSpec)) planPassesUptoCard

/-- THE SECOND FORM's CARD OF 'quarantinelaw8.ShowAll'. -/
def showAllUptoCard : Claim7 := { stood := { row := showAllUptoRow, standIns := [], harness := (true, "a7b688b6b6566d830db96b8de30066cb07eb0ff44dbe40024bd15d50555675dd"), looks := false }, kinds := [], alts := [], laidByText := true, laidKinds := [.data, .data, .data, .data, .pinned], laidTests := true, laidLooks := .later }
def ShowAllUptoCardSaid : Prop := Claim7.holds Tryd.pinned (.plain (OpenSpec.upto showAllSpec)) showAllUptoCard

/-- THE SECOND FORM's CARD OF 'quarantinelaw8.ShowParsed'. -/
def showParsedUptoCard : Claim7 := { stood := { row := showParsedUptoRow, standIns := [], harness := (true, "a7b688b6b6566d830db96b8de30066cb07eb0ff44dbe40024bd15d50555675dd"), looks := false }, kinds := [], alts := [], laidByText := true, laidKinds := [.data, .data, .data, .data, .pinned], laidTests := true, laidLooks := .later }
def ShowParsedUptoCardSaid : Prop := Claim7.holds Tryd.pinned (.plain (OpenSpec.upto showParsedSpec)) showParsedUptoCard
end Rows
end Go.Proofs.YtmdnhinpaflamaaDoor
