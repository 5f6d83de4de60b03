/-
  DERIVED. GIVEN WITH THE SEED: THE CARDS: each row of YtaifphjenebgoaaDoorRows.lean that lists a variable, with what it lists TIED to the program's text (the seventh form; the later family's looks); each row that meets fmt, with fmt's text TOLD by the authors' own Lean function (tested against real Go, not proved from fmt's source: count such statements apart). THE CARD IS WHAT COUNTS. Prove the row's statement (the work); the ties are given (YtaifphjenebgoaaDoorTie.lean); close each card by the builder's one call (the guide's Derived/Test/ToyasCard.lean, 'card_holds'). Laid BY PROGRAM, IN A SANDBOX (cutbox-door.mjs). By AI agents, Wed Nov 11 2026. No macro, syntax, notation, axiom, sorry.
-/
import Derived.Test.YtaifphjenebgoaaDoorRows
import GoSem.ClaimSeven
namespace Go.Proofs.YtaifphjenebgoaaDoor
namespace Rows

/-- THE TIED CARD OF 'cardindexlaw15.CodeEnds'. -/
def codeEndsCard : Claim7 := { stood := { row := codeEndsRow, standIns := [], harness := (true, "47bb77c3c38be63c5e885f808329e2205f25ca46278651a9402abf99d33b6371"), looks := false }, kinds := [], alts := [], laidByText := true, laidKinds := [.data, .data, .data, .listed, .data], laidTests := true, laidLooks := .later }
def CodeEndsCardSaid : Prop := Claim7.holds Tryd.pinned (.plain (OpenSpec.ofChange codeEndsSpec)) codeEndsCard

/-- THE TIED CARD OF 'cardindexlaw15.CodeForward'. -/
def codeForwardCard : Claim7 := { stood := { row := codeForwardRow, standIns := [], harness := (true, "47bb77c3c38be63c5e885f808329e2205f25ca46278651a9402abf99d33b6371"), looks := false }, kinds := [], alts := [], laidByText := true, laidKinds := [.data, .data, .data, .listed, .data], laidTests := true, laidLooks := .later }
def CodeForwardCardSaid : Prop := Claim7.holds Tryd.pinned (.plain (OpenSpec.ofChange codeForwardSpec)) codeForwardCard

/-- THE TIED CARD OF 'cardindexlaw15.CodeShows'. -/
def codeShowsCard : Claim7 := { stood := { row := codeShowsRow, standIns := [], harness := (true, "47bb77c3c38be63c5e885f808329e2205f25ca46278651a9402abf99d33b6371"), looks := false }, kinds := [], alts := [], laidByText := true, laidKinds := [.data, .data, .data, .listed, .data], laidTests := true, laidLooks := .later }
def CodeShowsCardSaid : Prop := Claim7.holds Tryd.pinned (.plain (OpenSpec.ofChange codeShowsSpec)) codeShowsCard

/-- THE TIED CARD OF 'cardindexlaw15.CodeApart'. -/
def codeApartCard : Claim7 := { stood := { row := codeApartRow, standIns := [], harness := (true, "47bb77c3c38be63c5e885f808329e2205f25ca46278651a9402abf99d33b6371"), looks := false }, kinds := [], alts := [], laidByText := true, laidKinds := [.data, .data, .data, .listed, .data], laidTests := true, laidLooks := .later }
def CodeApartCardSaid : Prop := Claim7.holds Tryd.pinned (.plain (OpenSpec.ofChange codeApartSpec)) codeApartCard

/-- THE SECOND FORM's CARD OF 'cardindexlaw15.CodeEnds'. -/
def codeEndsUptoCard : Claim7 := { stood := { row := codeEndsUptoRow, standIns := [], harness := (true, "47bb77c3c38be63c5e885f808329e2205f25ca46278651a9402abf99d33b6371"), looks := false }, kinds := [], alts := [], laidByText := true, laidKinds := [.data, .data, .data, .listed, .data], laidTests := true, laidLooks := .later }
def CodeEndsUptoCardSaid : Prop := Claim7.holds Tryd.pinned (.plain (OpenSpec.upto codeEndsSpec)) codeEndsUptoCard

/-- THE SECOND FORM's CARD OF 'cardindexlaw15.CodeForward'. -/
def codeForwardUptoCard : Claim7 := { stood := { row := codeForwardUptoRow, standIns := [], harness := (true, "47bb77c3c38be63c5e885f808329e2205f25ca46278651a9402abf99d33b6371"), looks := false }, kinds := [], alts := [], laidByText := true, laidKinds := [.data, .data, .data, .listed, .data], laidTests := true, laidLooks := .later }
def CodeForwardUptoCardSaid : Prop := Claim7.holds Tryd.pinned (.plain (OpenSpec.upto codeForwardSpec)) codeForwardUptoCard

/-- THE SECOND FORM's CARD OF 'cardindexlaw15.CodeShows'. -/
def codeShowsUptoCard : Claim7 := { stood := { row := codeShowsUptoRow, standIns := [], harness := (true, "47bb77c3c38be63c5e885f808329e2205f25ca46278651a9402abf99d33b6371"), looks := false }, kinds := [], alts := [], laidByText := true, laidKinds := [.data, .data, .data, .listed, .data], laidTests := true, laidLooks := .later }
def CodeShowsUptoCardSaid : Prop := Claim7.holds Tryd.pinned (.plain (OpenSpec.upto codeShowsSpec)) codeShowsUptoCard

/-- THE SECOND FORM's CARD OF 'cardindexlaw15.CodeApart'. -/
def codeApartUptoCard : Claim7 := { stood := { row := codeApartUptoRow, standIns := [], harness := (true, "47bb77c3c38be63c5e885f808329e2205f25ca46278651a9402abf99d33b6371"), looks := false }, kinds := [], alts := [], laidByText := true, laidKinds := [.data, .data, .data, .listed, .data], laidTests := true, laidLooks := .later }
def CodeApartUptoCardSaid : Prop := Claim7.holds Tryd.pinned (.plain (OpenSpec.upto codeApartSpec)) codeApartUptoCard
end Rows
end Go.Proofs.YtaifphjenebgoaaDoor
