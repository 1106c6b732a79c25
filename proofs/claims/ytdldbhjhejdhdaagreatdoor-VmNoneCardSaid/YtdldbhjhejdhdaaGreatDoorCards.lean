/-
  DERIVED. GIVEN WITH THE SEED: THE CARDS: each row of YtdldbhjhejdhdaaGreatDoorRows.lean that lists a variable, with what it lists TIED to the program's text (the seventh form; the later family's looks); each row that meets fmt, with fmt's text TOLD by the authors' own Lean function (tested against real Go, not proved from fmt's source: count such statements apart). THE CARD IS WHAT COUNTS. Prove the row's statement (the work); the ties are given (YtdldbhjhejdhdaaGreatDoorTie.lean); close each card by the builder's one call (the guide's Derived/Test/ToyasCard.lean, 'card_holds'). Laid BY PROGRAM, IN A SANDBOX (cutbox-door.mjs). By AI agents, Wed Nov 11 2026. No macro, syntax, notation, axiom, sorry.
-/
import Derived.Test.YtdldbhjhejdhdaaGreatDoorRows
import GoSem.ClaimSeven
namespace Go.Proofs.YtdldbhjhejdhdaaGreatDoor
namespace Rows

/-- THE TIED CARD OF 'colonnadelaw15.VmRuns'. -/
def vmRunsCard : Claim7 := { stood := { row := vmRunsRow, standIns := [], harness := (true, "6f0175de8835b4dfeb0f7c4b137acc800d808d818b5879cb21edb4c300f61d8d"), looks := true }, kinds := [], alts := [], laidByText := true, laidKinds := [.data, .data, .data, .data, .sentinel, .sentinel, .pinned], laidTests := true, laidLooks := .later }
def VmRunsCardSaid : Prop := Claim7.holds Tryz.pinned (.plain (OpenSpec.ofChange vmRunsSpec)) vmRunsCard

/-- THE TIED CARD OF 'colonnadelaw15.VmHidden'. -/
def vmHiddenCard : Claim7 := { stood := { row := vmHiddenRow, standIns := [], harness := (true, "6f0175de8835b4dfeb0f7c4b137acc800d808d818b5879cb21edb4c300f61d8d"), looks := true }, kinds := [], alts := [], laidByText := true, laidKinds := [.data, .data, .data, .data, .sentinel, .sentinel, .pinned], laidTests := true, laidLooks := .later }
def VmHiddenCardSaid : Prop := Claim7.holds Tryz.pinned (.plain (OpenSpec.ofChange vmHiddenSpec)) vmHiddenCard

/-- THE TIED CARD OF 'colonnadelaw15.VmSizes'. -/
def vmSizesCard : Claim7 := { stood := { row := vmSizesRow, standIns := [], harness := (true, "6f0175de8835b4dfeb0f7c4b137acc800d808d818b5879cb21edb4c300f61d8d"), looks := true }, kinds := [], alts := [], laidByText := true, laidKinds := [.data, .data, .data, .data, .sentinel, .sentinel, .pinned], laidTests := true, laidLooks := .later }
def VmSizesCardSaid : Prop := Claim7.holds Tryz.pinned (.plain (OpenSpec.ofChange vmSizesSpec)) vmSizesCard

/-- THE TIED CARD OF 'colonnadelaw15.VmFilters'. -/
def vmFiltersCard : Claim7 := { stood := { row := vmFiltersRow, standIns := [], harness := (true, "6f0175de8835b4dfeb0f7c4b137acc800d808d818b5879cb21edb4c300f61d8d"), looks := true }, kinds := [], alts := [], laidByText := true, laidKinds := [.data, .data, .data, .data, .sentinel, .sentinel, .pinned], laidTests := true, laidLooks := .later }
def VmFiltersCardSaid : Prop := Claim7.holds Tryz.pinned (.plain (OpenSpec.ofChange vmFiltersSpec)) vmFiltersCard

/-- THE TIED CARD OF 'colonnadelaw15.VmNone'. -/
def vmNoneCard : Claim7 := { stood := { row := vmNoneRow, standIns := [], harness := (true, "6f0175de8835b4dfeb0f7c4b137acc800d808d818b5879cb21edb4c300f61d8d"), looks := true }, kinds := [], alts := [], laidByText := true, laidKinds := [.data, .data, .data, .data, .sentinel, .sentinel, .pinned], laidTests := true, laidLooks := .later }
def VmNoneCardSaid : Prop := Claim7.holds Tryz.pinned (.plain (OpenSpec.ofChange vmNoneSpec)) vmNoneCard

/-- THE TIED CARD OF 'colonnadelaw15.VmOwn'. -/
def vmOwnCard : Claim7 := { stood := { row := vmOwnRow, standIns := [], harness := (true, "6f0175de8835b4dfeb0f7c4b137acc800d808d818b5879cb21edb4c300f61d8d"), looks := true }, kinds := [], alts := [], laidByText := true, laidKinds := [.data, .data, .data, .data, .sentinel, .sentinel, .pinned], laidTests := true, laidLooks := .later }
def VmOwnCardSaid : Prop := Claim7.holds Tryz.pinned (.plain (OpenSpec.ofChange vmOwnSpec)) vmOwnCard

/-- THE SECOND FORM's CARD OF 'colonnadelaw15.VmRuns'. -/
def vmRunsUptoCard : Claim7 := { stood := { row := vmRunsUptoRow, standIns := [], harness := (true, "6f0175de8835b4dfeb0f7c4b137acc800d808d818b5879cb21edb4c300f61d8d"), looks := true }, kinds := [], alts := [], laidByText := true, laidKinds := [.data, .data, .data, .data, .sentinel, .sentinel, .pinned], laidTests := true, laidLooks := .later }
def VmRunsUptoCardSaid : Prop := Claim7.holds Tryz.pinned (.plain (OpenSpec.upto vmRunsSpec)) vmRunsUptoCard

/-- THE SECOND FORM's CARD OF 'colonnadelaw15.VmHidden'. -/
def vmHiddenUptoCard : Claim7 := { stood := { row := vmHiddenUptoRow, standIns := [], harness := (true, "6f0175de8835b4dfeb0f7c4b137acc800d808d818b5879cb21edb4c300f61d8d"), looks := true }, kinds := [], alts := [], laidByText := true, laidKinds := [.data, .data, .data, .data, .sentinel, .sentinel, .pinned], laidTests := true, laidLooks := .later }
def VmHiddenUptoCardSaid : Prop := Claim7.holds Tryz.pinned (.plain (OpenSpec.upto vmHiddenSpec)) vmHiddenUptoCard

/-- THE SECOND FORM's CARD OF 'colonnadelaw15.VmSizes'. -/
def vmSizesUptoCard : Claim7 := { stood := { row := vmSizesUptoRow, standIns := [], harness := (true, "6f0175de8835b4dfeb0f7c4b137acc800d808d818b5879cb21edb4c300f61d8d"), looks := true }, kinds := [], alts := [], laidByText := true, laidKinds := [.data, .data, .data, .data, .sentinel, .sentinel, .pinned], laidTests := true, laidLooks := .later }
def VmSizesUptoCardSaid : Prop := Claim7.holds Tryz.pinned (.plain (OpenSpec.upto vmSizesSpec)) vmSizesUptoCard

/-- THE SECOND FORM's CARD OF 'colonnadelaw15.VmFilters'. -/
def vmFiltersUptoCard : Claim7 := { stood := { row := vmFiltersUptoRow, standIns := [], harness := (true, "6f0175de8835b4dfeb0f7c4b137acc800d808d818b5879cb21edb4c300f61d8d"), looks := true }, kinds := [], alts := [], laidByText := true, laidKinds := [.data, .data, .data, .data, .sentinel, .sentinel, .pinned], laidTests := true, laidLooks := .later }
def VmFiltersUptoCardSaid : Prop := Claim7.holds Tryz.pinned (.plain (OpenSpec.upto vmFiltersSpec)) vmFiltersUptoCard

/-- THE SECOND FORM's CARD OF 'colonnadelaw15.VmNone'. -/
def vmNoneUptoCard : Claim7 := { stood := { row := vmNoneUptoRow, standIns := [], harness := (true, "6f0175de8835b4dfeb0f7c4b137acc800d808d818b5879cb21edb4c300f61d8d"), looks := true }, kinds := [], alts := [], laidByText := true, laidKinds := [.data, .data, .data, .data, .sentinel, .sentinel, .pinned], laidTests := true, laidLooks := .later }
def VmNoneUptoCardSaid : Prop := Claim7.holds Tryz.pinned (.plain (OpenSpec.upto vmNoneSpec)) vmNoneUptoCard

/-- THE SECOND FORM's CARD OF 'colonnadelaw15.VmOwn'. -/
def vmOwnUptoCard : Claim7 := { stood := { row := vmOwnUptoRow, standIns := [], harness := (true, "6f0175de8835b4dfeb0f7c4b137acc800d808d818b5879cb21edb4c300f61d8d"), looks := true }, kinds := [], alts := [], laidByText := true, laidKinds := [.data, .data, .data, .data, .sentinel, .sentinel, .pinned], laidTests := true, laidLooks := .later }
def VmOwnUptoCardSaid : Prop := Claim7.holds Tryz.pinned (.plain (OpenSpec.upto vmOwnSpec)) vmOwnUptoCard
end Rows
end Go.Proofs.YtdldbhjhejdhdaaGreatDoor
