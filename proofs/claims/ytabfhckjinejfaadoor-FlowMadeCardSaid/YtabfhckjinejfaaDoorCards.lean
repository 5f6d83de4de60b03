/-
  DERIVED. GIVEN WITH THE SEED: THE CARDS: each row of YtabfhckjinejfaaDoorRows.lean that lists a variable, with what it lists TIED to the program's text (the seventh form; the later family's looks); each row that meets fmt, with fmt's text TOLD by the authors' own Lean function (tested against real Go, not proved from fmt's source: count such statements apart). THE CARD IS WHAT COUNTS. Prove the row's statement (the work); the ties are given (YtabfhckjinejfaaDoorTie.lean); close each card by the builder's one call (the guide's Derived/Test/ToyasCard.lean, 'card_holds'). Laid BY PROGRAM, IN A SANDBOX (cutbox-door.mjs). By AI agents, Wed Nov 11 2026. No macro, syntax, notation, axiom, sorry.
-/
import Derived.Test.YtabfhckjinejfaaDoorRows
import GoSem.ClaimSeven
namespace Go.Proofs.YtabfhckjinejfaaDoor
namespace Rows

/-- THE TIED CARD OF 'cardindexlaw16.FlowDepth'. -/
def flowDepthCard : Claim7 := { stood := { row := flowDepthRow, standIns := [], harness := (true, "6c86dc25ae065ddd556130eedf3b4c5f354a598fbbd267b376460cf1cf58c4be"), looks := false }, kinds := [], alts := [], laidByText := true, laidKinds := [.listed, .data], laidTests := true, laidLooks := .later }
def FlowDepthCardSaid : Prop := Claim7.holds Tryd.pinned (.plain (OpenSpec.ofChange flowDepthSpec)) flowDepthCard

/-- THE TIED CARD OF 'cardindexlaw16.FlowMade'. -/
def flowMadeCard : Claim7 := { stood := { row := flowMadeRow, standIns := [], harness := (true, "6c86dc25ae065ddd556130eedf3b4c5f354a598fbbd267b376460cf1cf58c4be"), looks := false }, kinds := [], alts := [], laidByText := true, laidKinds := [.listed, .data], laidTests := true, laidLooks := .later }
def FlowMadeCardSaid : Prop := Claim7.holds Tryd.pinned (.plain (OpenSpec.ofChange flowMadeSpec)) flowMadeCard

/-- THE TIED CARD OF 'cardindexlaw16.FlowNested'. -/
def flowNestedCard : Claim7 := { stood := { row := flowNestedRow, standIns := [], harness := (true, "6c86dc25ae065ddd556130eedf3b4c5f354a598fbbd267b376460cf1cf58c4be"), looks := false }, kinds := [], alts := [], laidByText := true, laidKinds := [.listed, .data], laidTests := true, laidLooks := .later }
def FlowNestedCardSaid : Prop := Claim7.holds Tryd.pinned (.plain (OpenSpec.ofChange flowNestedSpec)) flowNestedCard

/-- THE TIED CARD OF 'cardindexlaw16.FlowEnds'. -/
def flowEndsCard : Claim7 := { stood := { row := flowEndsRow, standIns := [], harness := (true, "6c86dc25ae065ddd556130eedf3b4c5f354a598fbbd267b376460cf1cf58c4be"), looks := false }, kinds := [], alts := [], laidByText := true, laidKinds := [.listed, .data], laidTests := true, laidLooks := .later }
def FlowEndsCardSaid : Prop := Claim7.holds Tryd.pinned (.plain (OpenSpec.ofChange flowEndsSpec)) flowEndsCard

/-- THE SECOND FORM's CARD OF 'cardindexlaw16.FlowDepth'. -/
def flowDepthUptoCard : Claim7 := { stood := { row := flowDepthUptoRow, standIns := [], harness := (true, "6c86dc25ae065ddd556130eedf3b4c5f354a598fbbd267b376460cf1cf58c4be"), looks := false }, kinds := [], alts := [], laidByText := true, laidKinds := [.listed, .data], laidTests := true, laidLooks := .later }
def FlowDepthUptoCardSaid : Prop := Claim7.holds Tryd.pinned (.plain (OpenSpec.upto flowDepthSpec)) flowDepthUptoCard

/-- THE SECOND FORM's CARD OF 'cardindexlaw16.FlowMade'. -/
def flowMadeUptoCard : Claim7 := { stood := { row := flowMadeUptoRow, standIns := [], harness := (true, "6c86dc25ae065ddd556130eedf3b4c5f354a598fbbd267b376460cf1cf58c4be"), looks := false }, kinds := [], alts := [], laidByText := true, laidKinds := [.listed, .data], laidTests := true, laidLooks := .later }
def FlowMadeUptoCardSaid : Prop := Claim7.holds Tryd.pinned (.plain (OpenSpec.upto flowMadeSpec)) flowMadeUptoCard

/-- THE SECOND FORM's CARD OF 'cardindexlaw16.FlowNested'. -/
def flowNestedUptoCard : Claim7 := { stood := { row := flowNestedUptoRow, standIns := [], harness := (true, "6c86dc25ae065ddd556130eedf3b4c5f354a598fbbd267b376460cf1cf58c4be"), looks := false }, kinds := [], alts := [], laidByText := true, laidKinds := [.listed, .data], laidTests := true, laidLooks := .later }
def FlowNestedUptoCardSaid : Prop := Claim7.holds Tryd.pinned (.plain (OpenSpec.upto flowNestedSpec)) flowNestedUptoCard

/-- THE SECOND FORM's CARD OF 'cardindexlaw16.FlowEnds'. -/
def flowEndsUptoCard : Claim7 := { stood := { row := flowEndsUptoRow, standIns := [], harness := (true, "6c86dc25ae065ddd556130eedf3b4c5f354a598fbbd267b376460cf1cf58c4be"), looks := false }, kinds := [], alts := [], laidByText := true, laidKinds := [.listed, .data], laidTests := true, laidLooks := .later }
def FlowEndsUptoCardSaid : Prop := Claim7.holds Tryd.pinned (.plain (OpenSpec.upto flowEndsSpec)) flowEndsUptoCard
end Rows
end Go.Proofs.YtabfhckjinejfaaDoor
