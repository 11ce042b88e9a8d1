/-
  DERIVED. GIVEN WITH THE SEED: THE CARDS: each row of YtgpkbmekdmpgoaaGreatDoorRows.lean that lists a variable, with what it lists TIED to the program's text (the seventh form; the later family's looks); each row that meets fmt, with fmt's text TOLD by the authors' own Lean function (tested against real Go, not proved from fmt's source: count such statements apart). THE CARD IS WHAT COUNTS. Prove the row's statement (the work); the ties are given (YtgpkbmekdmpgoaaGreatDoorTie.lean); close each card by the builder's one call (the guide's Derived/Test/ToyasCard.lean, 'card_holds'). Laid BY PROGRAM, IN A SANDBOX (cutbox-door.mjs). By AI agents, Wed Nov 11 2026. No macro, syntax, notation, axiom, sorry.
-/
import Derived.Test.YtgpkbmekdmpgoaaGreatDoorRows
import GoSem.ClaimSeven
namespace Go.Proofs.YtgpkbmekdmpgoaaGreatDoor
namespace Rows

/-- THE TIED CARD OF 'laws.FnExactReadExpr'. -/
def fnExactReadExprCard : Claim7 := { stood := { row := fnExactReadExprRow, standIns := [], harness := (true, "4fb26d283fa2b75eae0e6a7d35f92e8852ce8f6188695db1595219b23312b0c8"), looks := true }, kinds := [], alts := [], laidByText := true, laidKinds := [.data, .data, .data, .data, .sentinel, .sentinel, .pinned], laidTests := true, laidLooks := .later }
def FnExactReadExprCardSaid : Prop := Claim7.holds Tryz.pinned (.plain (OpenSpec.ofChange fnExactReadExprSpec)) fnExactReadExprCard

/-- THE TIED CARD OF 'laws.FnExactNeedsIn'. -/
def fnExactNeedsInCard : Claim7 := { stood := { row := fnExactNeedsInRow, standIns := [], harness := (true, "4fb26d283fa2b75eae0e6a7d35f92e8852ce8f6188695db1595219b23312b0c8"), looks := true }, kinds := [], alts := [], laidByText := true, laidKinds := [.data, .data, .data, .data, .sentinel, .sentinel, .pinned], laidTests := true, laidLooks := .later }
def FnExactNeedsInCardSaid : Prop := Claim7.holds Tryz.pinned (.plain (OpenSpec.ofChange fnExactNeedsInSpec)) fnExactNeedsInCard

/-- THE TIED CARD OF 'laws.FnExactOrderOf'. -/
def fnExactOrderOfCard : Claim7 := { stood := { row := fnExactOrderOfRow, standIns := [], harness := (true, "4fb26d283fa2b75eae0e6a7d35f92e8852ce8f6188695db1595219b23312b0c8"), looks := true }, kinds := [], alts := [], laidByText := true, laidKinds := [.data, .data, .data, .data, .sentinel, .sentinel, .pinned], laidTests := true, laidLooks := .later }
def FnExactOrderOfCardSaid : Prop := Claim7.holds Tryz.pinned (.plain (OpenSpec.ofChange fnExactOrderOfSpec)) fnExactOrderOfCard

/-- THE TIED CARD OF 'laws.FnExactHangOn'. -/
def fnExactHangOnCard : Claim7 := { stood := { row := fnExactHangOnRow, standIns := [], harness := (true, "4fb26d283fa2b75eae0e6a7d35f92e8852ce8f6188695db1595219b23312b0c8"), looks := true }, kinds := [], alts := [], laidByText := true, laidKinds := [.data, .data, .data, .data, .sentinel, .sentinel, .pinned], laidTests := true, laidLooks := .later }
def FnExactHangOnCardSaid : Prop := Claim7.holds Tryz.pinned (.plain (OpenSpec.ofChange fnExactHangOnSpec)) fnExactHangOnCard

/-- THE TIED CARD OF 'laws.FnExactRingOf'. -/
def fnExactRingOfCard : Claim7 := { stood := { row := fnExactRingOfRow, standIns := [], harness := (true, "4fb26d283fa2b75eae0e6a7d35f92e8852ce8f6188695db1595219b23312b0c8"), looks := true }, kinds := [], alts := [], laidByText := true, laidKinds := [.data, .data, .data, .data, .sentinel, .sentinel, .pinned], laidTests := true, laidLooks := .later }
def FnExactRingOfCardSaid : Prop := Claim7.holds Tryz.pinned (.plain (OpenSpec.ofChange fnExactRingOfSpec)) fnExactRingOfCard

/-- THE TIED CARD OF 'laws.FnOutlines'. -/
def fnOutlinesCard : Claim7 := { stood := { row := fnOutlinesRow, standIns := [], harness := (true, "4fb26d283fa2b75eae0e6a7d35f92e8852ce8f6188695db1595219b23312b0c8"), looks := true }, kinds := [], alts := [], laidByText := true, laidKinds := [.data, .data, .data], laidTests := true, laidLooks := .later }
def FnOutlinesCardSaid : Prop := Claim7.holds Tryz.pinned (.plain (OpenSpec.ofChange fnOutlinesSpec)) fnOutlinesCard

/-- THE SECOND FORM's CARD OF 'laws.FnExactReadExpr'. -/
def fnExactReadExprUptoCard : Claim7 := { stood := { row := fnExactReadExprUptoRow, standIns := [], harness := (true, "4fb26d283fa2b75eae0e6a7d35f92e8852ce8f6188695db1595219b23312b0c8"), looks := true }, kinds := [], alts := [], laidByText := true, laidKinds := [.data, .data, .data, .data, .sentinel, .sentinel, .pinned], laidTests := true, laidLooks := .later }
def FnExactReadExprUptoCardSaid : Prop := Claim7.holds Tryz.pinned (.plain (OpenSpec.upto fnExactReadExprSpec)) fnExactReadExprUptoCard

/-- THE SECOND FORM's CARD OF 'laws.FnExactNeedsIn'. -/
def fnExactNeedsInUptoCard : Claim7 := { stood := { row := fnExactNeedsInUptoRow, standIns := [], harness := (true, "4fb26d283fa2b75eae0e6a7d35f92e8852ce8f6188695db1595219b23312b0c8"), looks := true }, kinds := [], alts := [], laidByText := true, laidKinds := [.data, .data, .data, .data, .sentinel, .sentinel, .pinned], laidTests := true, laidLooks := .later }
def FnExactNeedsInUptoCardSaid : Prop := Claim7.holds Tryz.pinned (.plain (OpenSpec.upto fnExactNeedsInSpec)) fnExactNeedsInUptoCard

/-- THE SECOND FORM's CARD OF 'laws.FnExactOrderOf'. -/
def fnExactOrderOfUptoCard : Claim7 := { stood := { row := fnExactOrderOfUptoRow, standIns := [], harness := (true, "4fb26d283fa2b75eae0e6a7d35f92e8852ce8f6188695db1595219b23312b0c8"), looks := true }, kinds := [], alts := [], laidByText := true, laidKinds := [.data, .data, .data, .data, .sentinel, .sentinel, .pinned], laidTests := true, laidLooks := .later }
def FnExactOrderOfUptoCardSaid : Prop := Claim7.holds Tryz.pinned (.plain (OpenSpec.upto fnExactOrderOfSpec)) fnExactOrderOfUptoCard

/-- THE SECOND FORM's CARD OF 'laws.FnExactHangOn'. -/
def fnExactHangOnUptoCard : Claim7 := { stood := { row := fnExactHangOnUptoRow, standIns := [], harness := (true, "4fb26d283fa2b75eae0e6a7d35f92e8852ce8f6188695db1595219b23312b0c8"), looks := true }, kinds := [], alts := [], laidByText := true, laidKinds := [.data, .data, .data, .data, .sentinel, .sentinel, .pinned], laidTests := true, laidLooks := .later }
def FnExactHangOnUptoCardSaid : Prop := Claim7.holds Tryz.pinned (.plain (OpenSpec.upto fnExactHangOnSpec)) fnExactHangOnUptoCard

/-- THE SECOND FORM's CARD OF 'laws.FnExactRingOf'. -/
def fnExactRingOfUptoCard : Claim7 := { stood := { row := fnExactRingOfUptoRow, standIns := [], harness := (true, "4fb26d283fa2b75eae0e6a7d35f92e8852ce8f6188695db1595219b23312b0c8"), looks := true }, kinds := [], alts := [], laidByText := true, laidKinds := [.data, .data, .data, .data, .sentinel, .sentinel, .pinned], laidTests := true, laidLooks := .later }
def FnExactRingOfUptoCardSaid : Prop := Claim7.holds Tryz.pinned (.plain (OpenSpec.upto fnExactRingOfSpec)) fnExactRingOfUptoCard

/-- THE SECOND FORM's CARD OF 'laws.FnOutlines'. -/
def fnOutlinesUptoCard : Claim7 := { stood := { row := fnOutlinesUptoRow, standIns := [], harness := (true, "4fb26d283fa2b75eae0e6a7d35f92e8852ce8f6188695db1595219b23312b0c8"), looks := true }, kinds := [], alts := [], laidByText := true, laidKinds := [.data, .data, .data], laidTests := true, laidLooks := .later }
def FnOutlinesUptoCardSaid : Prop := Claim7.holds Tryz.pinned (.plain (OpenSpec.upto fnOutlinesSpec)) fnOutlinesUptoCard
end Rows
end Go.Proofs.YtgpkbmekdmpgoaaGreatDoor
