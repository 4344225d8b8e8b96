/-
  DERIVED. GIVEN WITH THE SEED: THE CARDS: each row of YtkojonjcikgikaaDoorRows.lean that lists a variable, with what it lists TIED to the program's text (the seventh form; the later family's looks); each row that meets fmt, with fmt's text TOLD by the authors' own Lean function (tested against real Go, not proved from fmt's source: count such statements apart). THE CARD IS WHAT COUNTS. Prove the row's statement (the work); the ties are given (YtkojonjcikgikaaDoorTie.lean); close each card by the builder's one call (the guide's Derived/Test/ToyasCard.lean, 'card_holds'). Laid BY PROGRAM, IN A SANDBOX (cutbox-door.mjs). By AI agents, Wed Nov 11 2026. No macro, syntax, notation, axiom, sorry.
-/
import Derived.Test.YtkojonjcikgikaaDoorRows
import GoSem.ClaimSeven
namespace Go.Proofs.YtkojonjcikgikaaDoor
namespace Rows

/-- THE TIED CARD OF 'laws.FnExactParseImages'. -/
def fnExactParseImagesCard : Claim7 := { stood := { row := fnExactParseImagesRow, standIns := [], harness := (true, "2658648ae35843d078e6fc8df56ffeb1d2b2c51afee2f93e0c912d39be05ed69"), looks := true }, kinds := [], alts := [], laidByText := true, laidKinds := [.data, .data, .data, .data, .sentinel, .sentinel, .pinned], laidTests := true, laidLooks := .later }
def FnExactParseImagesCardSaid : Prop := Claim7.holds Tryd.pinned (.plain (OpenSpec.ofChange fnExactParseImagesSpec)) fnExactParseImagesCard

/-- THE TIED CARD OF 'laws.FnExactParseCycles'. -/
def fnExactParseCyclesCard : Claim7 := { stood := { row := fnExactParseCyclesRow, standIns := [], harness := (true, "2658648ae35843d078e6fc8df56ffeb1d2b2c51afee2f93e0c912d39be05ed69"), looks := true }, kinds := [], alts := [], laidByText := true, laidKinds := [.data, .data, .data, .data, .sentinel, .sentinel, .pinned], laidTests := true, laidLooks := .later }
def FnExactParseCyclesCardSaid : Prop := Claim7.holds Tryd.pinned (.plain (OpenSpec.ofChange fnExactParseCyclesSpec)) fnExactParseCyclesCard

/-- THE TIED CARD OF 'laws.FnExactFormatImages'. -/
def fnExactFormatImagesCard : Claim7 := { stood := { row := fnExactFormatImagesRow, standIns := [], harness := (true, "2658648ae35843d078e6fc8df56ffeb1d2b2c51afee2f93e0c912d39be05ed69"), looks := true }, kinds := [], alts := [], laidByText := true, laidKinds := [.data, .data, .data], laidTests := true, laidLooks := .later }
def FnExactFormatImagesCardSaid : Prop := Claim7.holds Tryd.pinned (.plain (OpenSpec.ofChange fnExactFormatImagesSpec)) fnExactFormatImagesCard

/-- THE TIED CARD OF 'laws.FnExactFormatCycles'. -/
def fnExactFormatCyclesCard : Claim7 := { stood := { row := fnExactFormatCyclesRow, standIns := [], harness := (true, "2658648ae35843d078e6fc8df56ffeb1d2b2c51afee2f93e0c912d39be05ed69"), looks := true }, kinds := [], alts := [], laidByText := true, laidKinds := [.data, .data, .data], laidTests := true, laidLooks := .later }
def FnExactFormatCyclesCardSaid : Prop := Claim7.holds Tryd.pinned (.plain (OpenSpec.ofChange fnExactFormatCyclesSpec)) fnExactFormatCyclesCard

/-- THE SECOND FORM's CARD OF 'laws.FnExactParseImages'. -/
def fnExactParseImagesUptoCard : Claim7 := { stood := { row := fnExactParseImagesUptoRow, standIns := [], harness := (true, "2658648ae35843d078e6fc8df56ffeb1d2b2c51afee2f93e0c912d39be05ed69"), looks := true }, kinds := [], alts := [], laidByText := true, laidKinds := [.data, .data, .data, .data, .sentinel, .sentinel, .pinned], laidTests := true, laidLooks := .later }
def FnExactParseImagesUptoCardSaid : Prop := Claim7.holds Tryd.pinned (.plain (OpenSpec.upto fnExactParseImagesSpec)) fnExactParseImagesUptoCard

/-- THE SECOND FORM's CARD OF 'laws.FnExactParseCycles'. -/
def fnExactParseCyclesUptoCard : Claim7 := { stood := { row := fnExactParseCyclesUptoRow, standIns := [], harness := (true, "2658648ae35843d078e6fc8df56ffeb1d2b2c51afee2f93e0c912d39be05ed69"), looks := true }, kinds := [], alts := [], laidByText := true, laidKinds := [.data, .data, .data, .data, .sentinel, .sentinel, .pinned], laidTests := true, laidLooks := .later }
def FnExactParseCyclesUptoCardSaid : Prop := Claim7.holds Tryd.pinned (.plain (OpenSpec.upto fnExactParseCyclesSpec)) fnExactParseCyclesUptoCard

/-- THE SECOND FORM's CARD OF 'laws.FnExactFormatImages'. -/
def fnExactFormatImagesUptoCard : Claim7 := { stood := { row := fnExactFormatImagesUptoRow, standIns := [], harness := (true, "2658648ae35843d078e6fc8df56ffeb1d2b2c51afee2f93e0c912d39be05ed69"), looks := true }, kinds := [], alts := [], laidByText := true, laidKinds := [.data, .data, .data], laidTests := true, laidLooks := .later }
def FnExactFormatImagesUptoCardSaid : Prop := Claim7.holds Tryd.pinned (.plain (OpenSpec.upto fnExactFormatImagesSpec)) fnExactFormatImagesUptoCard

/-- THE SECOND FORM's CARD OF 'laws.FnExactFormatCycles'. -/
def fnExactFormatCyclesUptoCard : Claim7 := { stood := { row := fnExactFormatCyclesUptoRow, standIns := [], harness := (true, "2658648ae35843d078e6fc8df56ffeb1d2b2c51afee2f93e0c912d39be05ed69"), looks := true }, kinds := [], alts := [], laidByText := true, laidKinds := [.data, .data, .data], laidTests := true, laidLooks := .later }
def FnExactFormatCyclesUptoCardSaid : Prop := Claim7.holds Tryd.pinned (.plain (OpenSpec.upto fnExactFormatCyclesSpec)) fnExactFormatCyclesUptoCard
end Rows
end Go.Proofs.YtkojonjcikgikaaDoor
