/-
  DERIVED. GIVEN WITH THE SEED: THE CARDS: each row of YtpmgecnkcllneaaDoorRows.lean that lists a variable, with what it lists TIED to the program's text (the seventh form; the later family's looks); each row that meets fmt, with fmt's text TOLD by the authors' own Lean function (tested against real Go, not proved from fmt's source: count such statements apart). THE CARD IS WHAT COUNTS. Prove the row's statement (the work); the ties are given (YtpmgecnkcllneaaDoorTie.lean); close each card by the builder's one call (the guide's Derived/Test/ToyasCard.lean, 'card_holds'). Laid BY PROGRAM, IN A SANDBOX (cutbox-door.mjs). By AI agents, Wed Nov 11 2026. No macro, syntax, notation, axiom, sorry.
-/
import Derived.Test.YtpmgecnkcllneaaDoorRows
import GoSem.ClaimSeven
namespace Go.Proofs.YtpmgecnkcllneaaDoor
namespace Rows

/-- THE TIED CARD OF 'quarantinelaw7.ParseDeep'. -/
def parseDeepCard : Claim7 := { stood := { row := parseDeepRow, standIns := [], harness := (true, "7aeddd0d3c2bd264331dc59168194fa925e923e734b1a9bf3c3bf92537082d17"), looks := false }, kinds := [], alts := [], laidByText := true, laidKinds := [.data, .pinned], laidTests := true, laidLooks := .later }
def ParseDeepCardSaid : Prop := Claim7.holds Tryd.pinned (.plain (OpenSpec.ofChange parseDeepSpec)) parseDeepCard

/-- THE TIED CARD OF 'quarantinelaw7.ParseGroups'. -/
def parseGroupsCard : Claim7 := { stood := { row := parseGroupsRow, standIns := [], harness := (true, "7aeddd0d3c2bd264331dc59168194fa925e923e734b1a9bf3c3bf92537082d17"), looks := false }, kinds := [], alts := [], laidByText := true, laidKinds := [.data, .pinned], laidTests := true, laidLooks := .later }
def ParseGroupsCardSaid : Prop := Claim7.holds Tryd.pinned (.plain (OpenSpec.ofChange parseGroupsSpec)) parseGroupsCard

/-- THE TIED CARD OF 'quarantinelaw7.ParseShownExprs'. -/
def parseShownExprsCard : Claim7 := { stood := { row := parseShownExprsRow, standIns := [], harness := (true, "7aeddd0d3c2bd264331dc59168194fa925e923e734b1a9bf3c3bf92537082d17"), looks := false }, kinds := [], alts := [], laidByText := true, laidKinds := [.data, .pinned], laidTests := true, laidLooks := .later }
def ParseShownExprsCardSaid : Prop := Claim7.holds Tryd.pinned (.plain (OpenSpec.ofChange parseShownExprsSpec)) parseShownExprsCard

/-- THE TIED CARD OF 'quarantinelaw7.ParseWords'. -/
def parseWordsCard : Claim7 := { stood := { row := parseWordsRow, standIns := [], harness := (true, "7aeddd0d3c2bd264331dc59168194fa925e923e734b1a9bf3c3bf92537082d17"), looks := false }, kinds := [], alts := [], laidByText := true, laidKinds := [.data, .pinned], laidTests := true, laidLooks := .later }
def ParseWordsCardSaid : Prop := Claim7.holds Tryd.pinned (.plain (OpenSpec.ofChange parseWordsSpec)) parseWordsCard

/-- THE SECOND FORM's CARD OF 'quarantinelaw7.ParseDeep'. -/
def parseDeepUptoCard : Claim7 := { stood := { row := parseDeepUptoRow, standIns := [], harness := (true, "7aeddd0d3c2bd264331dc59168194fa925e923e734b1a9bf3c3bf92537082d17"), looks := false }, kinds := [], alts := [], laidByText := true, laidKinds := [.data, .pinned], laidTests := true, laidLooks := .later }
def ParseDeepUptoCardSaid : Prop := Claim7.holds Tryd.pinned (.plain (OpenSpec.upto parseDeepSpec)) parseDeepUptoCard

/-- THE SECOND FORM's CARD OF 'quarantinelaw7.ParseGroups'. -/
def parseGroupsUptoCard : Claim7 := { stood := { row := parseGroupsUptoRow, standIns := [], harness := (true, "7aeddd0d3c2bd264331dc59168194fa925e923e734b1a9bf3c3bf92537082d17"), looks := false }, kinds := [], alts := [], laidByText := true, laidKinds := [.data, .pinned], laidTests := true, laidLooks := .later }
def ParseGroupsUptoCardSaid : Prop := Claim7.holds Tryd.pinned (.plain (OpenSpec.upto parseGroupsSpec)) parseGroupsUptoCard

/-- THE SECOND FORM's CARD OF 'quarantinelaw7.ParseShownExprs'. -/
def parseShownExprsUptoCard : Claim7 := { stood := { row := parseShownExprsUptoRow, standIns := [], harness := (true, "7aeddd0d3c2bd264331dc59168194fa925e923e734b1a9bf3c3bf92537082d17"), looks := false }, kinds := [], alts := [], laidByText := true, laidKinds := [.data, .pinned], laidTests := true, laidLooks := .later }
def ParseShownExprsUptoCardSaid : Prop := Claim7.holds Tryd.pinned (.plain (OpenSpec.upto parseShownExprsSpec)) parseShownExprsUptoCard

/-- THE SECOND FORM's CARD OF 'quarantinelaw7.ParseWords'. -/
def parseWordsUptoCard : Claim7 := { stood := { row := parseWordsUptoRow, standIns := [], harness := (true, "7aeddd0d3c2bd264331dc59168194fa925e923e734b1a9bf3c3bf92537082d17"), looks := false }, kinds := [], alts := [], laidByText := true, laidKinds := [.data, .pinned], laidTests := true, laidLooks := .later }
def ParseWordsUptoCardSaid : Prop := Claim7.holds Tryd.pinned (.plain (OpenSpec.upto parseWordsSpec)) parseWordsUptoCard
end Rows
end Go.Proofs.YtpmgecnkcllneaaDoor
