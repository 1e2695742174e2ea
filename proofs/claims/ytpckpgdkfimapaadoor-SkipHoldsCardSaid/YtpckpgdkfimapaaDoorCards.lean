/-
  DERIVED. GIVEN WITH THE SEED: THE CARDS: each row of YtpckpgdkfimapaaDoorRows.lean that lists a variable, with what it lists TIED to the program's text (the seventh form; the later family's looks); each row that meets fmt, with fmt's text TOLD by the authors' own Lean function (tested against real Go, not proved from fmt's source: count such statements apart). THE CARD IS WHAT COUNTS. Prove the row's statement (the work); the ties are given (YtpckpgdkfimapaaDoorTie.lean); close each card by the builder's one call (the guide's Derived/Test/ToyasCard.lean, 'card_holds'). Laid BY PROGRAM, IN A SANDBOX (cutbox-door.mjs). By AI agents, Wed Nov 11 2026. No macro, syntax, notation, axiom, sorry.
-/
import Derived.Test.YtpckpgdkfimapaaDoorRows
import GoSem.ClaimSeven
namespace Go.Proofs.YtpckpgdkfimapaaDoor
namespace Rows

/-- THE TIED CARD OF 'varvelaw10.SkipTogether'. -/
def skipTogetherCard : Claim7 := { stood := { row := skipTogetherRow, standIns := [], harness := (true, "68da524ebba4c6af0d8df6e45e43b7e6929fb4111476aef435da8e45775c46ac"), looks := false }, kinds := [], alts := [], laidByText := true, laidKinds := [.data], laidTests := true, laidLooks := .later }
def SkipTogetherCardSaid : Prop := Claim7.holds Tryd.pinned (.plain (OpenSpec.ofChange skipTogetherSpec)) skipTogetherCard

/-- THE TIED CARD OF 'varvelaw10.SkipHolds'. -/
def skipHoldsCard : Claim7 := { stood := { row := skipHoldsRow, standIns := [], harness := (true, "68da524ebba4c6af0d8df6e45e43b7e6929fb4111476aef435da8e45775c46ac"), looks := false }, kinds := [], alts := [], laidByText := true, laidKinds := [.data], laidTests := true, laidLooks := .later }
def SkipHoldsCardSaid : Prop := Claim7.holds Tryd.pinned (.plain (OpenSpec.ofChange skipHoldsSpec)) skipHoldsCard

/-- THE TIED CARD OF 'varvelaw10.SkipNone'. -/
def skipNoneCard : Claim7 := { stood := { row := skipNoneRow, standIns := [], harness := (true, "68da524ebba4c6af0d8df6e45e43b7e6929fb4111476aef435da8e45775c46ac"), looks := false }, kinds := [], alts := [], laidByText := true, laidKinds := [.data], laidTests := true, laidLooks := .later }
def SkipNoneCardSaid : Prop := Claim7.holds Tryd.pinned (.plain (OpenSpec.ofChange skipNoneSpec)) skipNoneCard

/-- THE SECOND FORM's CARD OF 'varvelaw10.SkipTogether'. -/
def skipTogetherUptoCard : Claim7 := { stood := { row := skipTogetherUptoRow, standIns := [], harness := (true, "68da524ebba4c6af0d8df6e45e43b7e6929fb4111476aef435da8e45775c46ac"), looks := false }, kinds := [], alts := [], laidByText := true, laidKinds := [.data], laidTests := true, laidLooks := .later }
def SkipTogetherUptoCardSaid : Prop := Claim7.holds Tryd.pinned (.plain (OpenSpec.upto skipTogetherSpec)) skipTogetherUptoCard

/-- THE SECOND FORM's CARD OF 'varvelaw10.SkipHolds'. -/
def skipHoldsUptoCard : Claim7 := { stood := { row := skipHoldsUptoRow, standIns := [], harness := (true, "68da524ebba4c6af0d8df6e45e43b7e6929fb4111476aef435da8e45775c46ac"), looks := false }, kinds := [], alts := [], laidByText := true, laidKinds := [.data], laidTests := true, laidLooks := .later }
def SkipHoldsUptoCardSaid : Prop := Claim7.holds Tryd.pinned (.plain (OpenSpec.upto skipHoldsSpec)) skipHoldsUptoCard

/-- THE SECOND FORM's CARD OF 'varvelaw10.SkipNone'. -/
def skipNoneUptoCard : Claim7 := { stood := { row := skipNoneUptoRow, standIns := [], harness := (true, "68da524ebba4c6af0d8df6e45e43b7e6929fb4111476aef435da8e45775c46ac"), looks := false }, kinds := [], alts := [], laidByText := true, laidKinds := [.data], laidTests := true, laidLooks := .later }
def SkipNoneUptoCardSaid : Prop := Claim7.holds Tryd.pinned (.plain (OpenSpec.upto skipNoneSpec)) skipNoneUptoCard
end Rows
end Go.Proofs.YtpckpgdkfimapaaDoor
