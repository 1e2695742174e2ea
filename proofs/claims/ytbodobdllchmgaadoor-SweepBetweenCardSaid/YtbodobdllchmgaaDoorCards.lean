/-
  DERIVED. GIVEN WITH THE SEED: THE CARDS: each row of YtbodobdllchmgaaDoorRows.lean that lists a variable, with what it lists TIED to the program's text (the seventh form; the later family's looks); each row that meets fmt, with fmt's text TOLD by the authors' own Lean function (tested against real Go, not proved from fmt's source: count such statements apart). THE CARD IS WHAT COUNTS. Prove the row's statement (the work); the ties are given (YtbodobdllchmgaaDoorTie.lean); close each card by the builder's one call (the guide's Derived/Test/ToyasCard.lean, 'card_holds'). Laid BY PROGRAM, IN A SANDBOX (cutbox-door.mjs). By AI agents, Wed Nov 11 2026. No macro, syntax, notation, axiom, sorry.
-/
import Derived.Test.YtbodobdllchmgaaDoorRows
import GoSem.ClaimSeven
namespace Go.Proofs.YtbodobdllchmgaaDoor
namespace Rows

/-- THE TIED CARD OF 'varvelaw15.SweepNone'. -/
def sweepNoneCard : Claim7 := { stood := { row := sweepNoneRow, standIns := [], harness := (true, "6dcc1baf53f5b29e9293324921f514cb767ee3dc843f1f4fe5d37e25d3318c03"), looks := false }, kinds := [], alts := [], laidByText := true, laidKinds := [.data], laidTests := true, laidLooks := .later }
def SweepNoneCardSaid : Prop := Claim7.holds Tryd.pinned (.plain (OpenSpec.ofChange sweepNoneSpec)) sweepNoneCard

/-- THE TIED CARD OF 'varvelaw15.SweepMarks'. -/
def sweepMarksCard : Claim7 := { stood := { row := sweepMarksRow, standIns := [], harness := (true, "6dcc1baf53f5b29e9293324921f514cb767ee3dc843f1f4fe5d37e25d3318c03"), looks := false }, kinds := [], alts := [], laidByText := true, laidKinds := [.data], laidTests := true, laidLooks := .later }
def SweepMarksCardSaid : Prop := Claim7.holds Tryd.pinned (.plain (OpenSpec.ofChange sweepMarksSpec)) sweepMarksCard

/-- THE TIED CARD OF 'varvelaw15.SweepLeast'. -/
def sweepLeastCard : Claim7 := { stood := { row := sweepLeastRow, standIns := [], harness := (true, "6dcc1baf53f5b29e9293324921f514cb767ee3dc843f1f4fe5d37e25d3318c03"), looks := false }, kinds := [], alts := [], laidByText := true, laidKinds := [.data], laidTests := true, laidLooks := .later }
def SweepLeastCardSaid : Prop := Claim7.holds Tryd.pinned (.plain (OpenSpec.ofChange sweepLeastSpec)) sweepLeastCard

/-- THE TIED CARD OF 'varvelaw15.SweepTakes'. -/
def sweepTakesCard : Claim7 := { stood := { row := sweepTakesRow, standIns := [], harness := (true, "6dcc1baf53f5b29e9293324921f514cb767ee3dc843f1f4fe5d37e25d3318c03"), looks := false }, kinds := [], alts := [], laidByText := true, laidKinds := [.data], laidTests := true, laidLooks := .later }
def SweepTakesCardSaid : Prop := Claim7.holds Tryd.pinned (.plain (OpenSpec.ofChange sweepTakesSpec)) sweepTakesCard

/-- THE TIED CARD OF 'varvelaw15.SweepKeeps'. -/
def sweepKeepsCard : Claim7 := { stood := { row := sweepKeepsRow, standIns := [], harness := (true, "6dcc1baf53f5b29e9293324921f514cb767ee3dc843f1f4fe5d37e25d3318c03"), looks := false }, kinds := [], alts := [], laidByText := true, laidKinds := [.data], laidTests := true, laidLooks := .later }
def SweepKeepsCardSaid : Prop := Claim7.holds Tryd.pinned (.plain (OpenSpec.ofChange sweepKeepsSpec)) sweepKeepsCard

/-- THE TIED CARD OF 'varvelaw15.SweepBetween'. -/
def sweepBetweenCard : Claim7 := { stood := { row := sweepBetweenRow, standIns := [], harness := (true, "6dcc1baf53f5b29e9293324921f514cb767ee3dc843f1f4fe5d37e25d3318c03"), looks := false }, kinds := [], alts := [], laidByText := true, laidKinds := [.data], laidTests := true, laidLooks := .later }
def SweepBetweenCardSaid : Prop := Claim7.holds Tryd.pinned (.plain (OpenSpec.ofChange sweepBetweenSpec)) sweepBetweenCard

/-- THE SECOND FORM's CARD OF 'varvelaw15.SweepNone'. -/
def sweepNoneUptoCard : Claim7 := { stood := { row := sweepNoneUptoRow, standIns := [], harness := (true, "6dcc1baf53f5b29e9293324921f514cb767ee3dc843f1f4fe5d37e25d3318c03"), looks := false }, kinds := [], alts := [], laidByText := true, laidKinds := [.data], laidTests := true, laidLooks := .later }
def SweepNoneUptoCardSaid : Prop := Claim7.holds Tryd.pinned (.plain (OpenSpec.upto sweepNoneSpec)) sweepNoneUptoCard

/-- THE SECOND FORM's CARD OF 'varvelaw15.SweepMarks'. -/
def sweepMarksUptoCard : Claim7 := { stood := { row := sweepMarksUptoRow, standIns := [], harness := (true, "6dcc1baf53f5b29e9293324921f514cb767ee3dc843f1f4fe5d37e25d3318c03"), looks := false }, kinds := [], alts := [], laidByText := true, laidKinds := [.data], laidTests := true, laidLooks := .later }
def SweepMarksUptoCardSaid : Prop := Claim7.holds Tryd.pinned (.plain (OpenSpec.upto sweepMarksSpec)) sweepMarksUptoCard

/-- THE SECOND FORM's CARD OF 'varvelaw15.SweepLeast'. -/
def sweepLeastUptoCard : Claim7 := { stood := { row := sweepLeastUptoRow, standIns := [], harness := (true, "6dcc1baf53f5b29e9293324921f514cb767ee3dc843f1f4fe5d37e25d3318c03"), looks := false }, kinds := [], alts := [], laidByText := true, laidKinds := [.data], laidTests := true, laidLooks := .later }
def SweepLeastUptoCardSaid : Prop := Claim7.holds Tryd.pinned (.plain (OpenSpec.upto sweepLeastSpec)) sweepLeastUptoCard

/-- THE SECOND FORM's CARD OF 'varvelaw15.SweepTakes'. -/
def sweepTakesUptoCard : Claim7 := { stood := { row := sweepTakesUptoRow, standIns := [], harness := (true, "6dcc1baf53f5b29e9293324921f514cb767ee3dc843f1f4fe5d37e25d3318c03"), looks := false }, kinds := [], alts := [], laidByText := true, laidKinds := [.data], laidTests := true, laidLooks := .later }
def SweepTakesUptoCardSaid : Prop := Claim7.holds Tryd.pinned (.plain (OpenSpec.upto sweepTakesSpec)) sweepTakesUptoCard

/-- THE SECOND FORM's CARD OF 'varvelaw15.SweepKeeps'. -/
def sweepKeepsUptoCard : Claim7 := { stood := { row := sweepKeepsUptoRow, standIns := [], harness := (true, "6dcc1baf53f5b29e9293324921f514cb767ee3dc843f1f4fe5d37e25d3318c03"), looks := false }, kinds := [], alts := [], laidByText := true, laidKinds := [.data], laidTests := true, laidLooks := .later }
def SweepKeepsUptoCardSaid : Prop := Claim7.holds Tryd.pinned (.plain (OpenSpec.upto sweepKeepsSpec)) sweepKeepsUptoCard

/-- THE SECOND FORM's CARD OF 'varvelaw15.SweepBetween'. -/
def sweepBetweenUptoCard : Claim7 := { stood := { row := sweepBetweenUptoRow, standIns := [], harness := (true, "6dcc1baf53f5b29e9293324921f514cb767ee3dc843f1f4fe5d37e25d3318c03"), looks := false }, kinds := [], alts := [], laidByText := true, laidKinds := [.data], laidTests := true, laidLooks := .later }
def SweepBetweenUptoCardSaid : Prop := Claim7.holds Tryd.pinned (.plain (OpenSpec.upto sweepBetweenSpec)) sweepBetweenUptoCard
end Rows
end Go.Proofs.YtbodobdllchmgaaDoor
