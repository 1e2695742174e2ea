/-
  DERIVED. GIVEN WITH THE SEED: THE CARDS: each row of YtngmimhpeeahoaaDoorRows.lean that lists a variable, with what it lists TIED to the program's text (the seventh form; the later family's looks); each row that meets fmt, with fmt's text TOLD by the authors' own Lean function (tested against real Go, not proved from fmt's source: count such statements apart). THE CARD IS WHAT COUNTS. Prove the row's statement (the work); the ties are given (YtngmimhpeeahoaaDoorTie.lean); close each card by the builder's one call (the guide's Derived/Test/ToyasCard.lean, 'card_holds'). Laid BY PROGRAM, IN A SANDBOX (cutbox-door.mjs). By AI agents, Wed Nov 11 2026. No macro, syntax, notation, axiom, sorry.
-/
import Derived.Test.YtngmimhpeeahoaaDoorRows
import GoSem.ClaimSeven
namespace Go.Proofs.YtngmimhpeeahoaaDoor
namespace Rows

/-- THE TIED CARD OF 'varvelaw03.CellsAdd'. -/
def cellsAddCard : Claim7 := { stood := { row := cellsAddRow, standIns := [], harness := (true, "b6c7bf76f8677811afc2f64773653f3d71aec4cc69e23873e804dbffa2fa5e01"), looks := false }, kinds := [], alts := [], laidByText := true, laidKinds := [.data], laidTests := true, laidLooks := .later }
def CellsAddCardSaid : Prop := Claim7.holds Tryd.pinned (.plain (OpenSpec.ofChange cellsAddSpec)) cellsAddCard

/-- THE TIED CARD OF 'varvelaw03.CellsOnce'. -/
def cellsOnceCard : Claim7 := { stood := { row := cellsOnceRow, standIns := [], harness := (true, "b6c7bf76f8677811afc2f64773653f3d71aec4cc69e23873e804dbffa2fa5e01"), looks := false }, kinds := [], alts := [], laidByText := true, laidKinds := [.data], laidTests := true, laidLooks := .later }
def CellsOnceCardSaid : Prop := Claim7.holds Tryd.pinned (.plain (OpenSpec.ofChange cellsOnceSpec)) cellsOnceCard

/-- THE TIED CARD OF 'varvelaw03.CellsBack'. -/
def cellsBackCard : Claim7 := { stood := { row := cellsBackRow, standIns := [], harness := (true, "b6c7bf76f8677811afc2f64773653f3d71aec4cc69e23873e804dbffa2fa5e01"), looks := false }, kinds := [], alts := [], laidByText := true, laidKinds := [.data], laidTests := true, laidLooks := .later }
def CellsBackCardSaid : Prop := Claim7.holds Tryd.pinned (.plain (OpenSpec.ofChange cellsBackSpec)) cellsBackCard

/-- THE TIED CARD OF 'varvelaw03.CellsApart'. -/
def cellsApartCard : Claim7 := { stood := { row := cellsApartRow, standIns := [], harness := (true, "b6c7bf76f8677811afc2f64773653f3d71aec4cc69e23873e804dbffa2fa5e01"), looks := false }, kinds := [], alts := [], laidByText := true, laidKinds := [.data], laidTests := true, laidLooks := .later }
def CellsApartCardSaid : Prop := Claim7.holds Tryd.pinned (.plain (OpenSpec.ofChange cellsApartSpec)) cellsApartCard

/-- THE TIED CARD OF 'varvelaw03.CellsDoes'. -/
def cellsDoesCard : Claim7 := { stood := { row := cellsDoesRow, standIns := [], harness := (true, "b6c7bf76f8677811afc2f64773653f3d71aec4cc69e23873e804dbffa2fa5e01"), looks := false }, kinds := [], alts := [], laidByText := true, laidKinds := [.data], laidTests := true, laidLooks := .later }
def CellsDoesCardSaid : Prop := Claim7.holds Tryd.pinned (.plain (OpenSpec.ofChange cellsDoesSpec)) cellsDoesCard

/-- THE TIED CARD OF 'varvelaw03.CellsNone'. -/
def cellsNoneCard : Claim7 := { stood := { row := cellsNoneRow, standIns := [], harness := (true, "b6c7bf76f8677811afc2f64773653f3d71aec4cc69e23873e804dbffa2fa5e01"), looks := false }, kinds := [], alts := [], laidByText := true, laidKinds := [.data], laidTests := true, laidLooks := .later }
def CellsNoneCardSaid : Prop := Claim7.holds Tryd.pinned (.plain (OpenSpec.ofChange cellsNoneSpec)) cellsNoneCard

/-- THE SECOND FORM's CARD OF 'varvelaw03.CellsAdd'. -/
def cellsAddUptoCard : Claim7 := { stood := { row := cellsAddUptoRow, standIns := [], harness := (true, "b6c7bf76f8677811afc2f64773653f3d71aec4cc69e23873e804dbffa2fa5e01"), looks := false }, kinds := [], alts := [], laidByText := true, laidKinds := [.data], laidTests := true, laidLooks := .later }
def CellsAddUptoCardSaid : Prop := Claim7.holds Tryd.pinned (.plain (OpenSpec.upto cellsAddSpec)) cellsAddUptoCard

/-- THE SECOND FORM's CARD OF 'varvelaw03.CellsOnce'. -/
def cellsOnceUptoCard : Claim7 := { stood := { row := cellsOnceUptoRow, standIns := [], harness := (true, "b6c7bf76f8677811afc2f64773653f3d71aec4cc69e23873e804dbffa2fa5e01"), looks := false }, kinds := [], alts := [], laidByText := true, laidKinds := [.data], laidTests := true, laidLooks := .later }
def CellsOnceUptoCardSaid : Prop := Claim7.holds Tryd.pinned (.plain (OpenSpec.upto cellsOnceSpec)) cellsOnceUptoCard

/-- THE SECOND FORM's CARD OF 'varvelaw03.CellsBack'. -/
def cellsBackUptoCard : Claim7 := { stood := { row := cellsBackUptoRow, standIns := [], harness := (true, "b6c7bf76f8677811afc2f64773653f3d71aec4cc69e23873e804dbffa2fa5e01"), looks := false }, kinds := [], alts := [], laidByText := true, laidKinds := [.data], laidTests := true, laidLooks := .later }
def CellsBackUptoCardSaid : Prop := Claim7.holds Tryd.pinned (.plain (OpenSpec.upto cellsBackSpec)) cellsBackUptoCard

/-- THE SECOND FORM's CARD OF 'varvelaw03.CellsApart'. -/
def cellsApartUptoCard : Claim7 := { stood := { row := cellsApartUptoRow, standIns := [], harness := (true, "b6c7bf76f8677811afc2f64773653f3d71aec4cc69e23873e804dbffa2fa5e01"), looks := false }, kinds := [], alts := [], laidByText := true, laidKinds := [.data], laidTests := true, laidLooks := .later }
def CellsApartUptoCardSaid : Prop := Claim7.holds Tryd.pinned (.plain (OpenSpec.upto cellsApartSpec)) cellsApartUptoCard

/-- THE SECOND FORM's CARD OF 'varvelaw03.CellsDoes'. -/
def cellsDoesUptoCard : Claim7 := { stood := { row := cellsDoesUptoRow, standIns := [], harness := (true, "b6c7bf76f8677811afc2f64773653f3d71aec4cc69e23873e804dbffa2fa5e01"), looks := false }, kinds := [], alts := [], laidByText := true, laidKinds := [.data], laidTests := true, laidLooks := .later }
def CellsDoesUptoCardSaid : Prop := Claim7.holds Tryd.pinned (.plain (OpenSpec.upto cellsDoesSpec)) cellsDoesUptoCard

/-- THE SECOND FORM's CARD OF 'varvelaw03.CellsNone'. -/
def cellsNoneUptoCard : Claim7 := { stood := { row := cellsNoneUptoRow, standIns := [], harness := (true, "b6c7bf76f8677811afc2f64773653f3d71aec4cc69e23873e804dbffa2fa5e01"), looks := false }, kinds := [], alts := [], laidByText := true, laidKinds := [.data], laidTests := true, laidLooks := .later }
def CellsNoneUptoCardSaid : Prop := Claim7.holds Tryd.pinned (.plain (OpenSpec.upto cellsNoneSpec)) cellsNoneUptoCard
end Rows
end Go.Proofs.YtngmimhpeeahoaaDoor
