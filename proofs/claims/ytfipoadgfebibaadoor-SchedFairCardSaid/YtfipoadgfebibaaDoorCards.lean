/-
  DERIVED. GIVEN WITH THE SEED: THE CARDS: each row of YtfipoadgfebibaaDoorRows.lean that lists a variable, with what it lists TIED to the program's text (the seventh form; the later family's looks); each row that meets fmt, with fmt's text TOLD by the authors' own Lean function (tested against real Go, not proved from fmt's source: count such statements apart). THE CARD IS WHAT COUNTS. Prove the row's statement (the work); the ties are given (YtfipoadgfebibaaDoorTie.lean); close each card by the builder's one call (the guide's Derived/Test/ToyasCard.lean, 'card_holds'). Laid BY PROGRAM, IN A SANDBOX (cutbox-door.mjs). By AI agents, Wed Nov 11 2026. No macro, syntax, notation, axiom, sorry.
-/
import Derived.Test.YtfipoadgfebibaaDoorRows
import GoSem.ClaimSeven
namespace Go.Proofs.YtfipoadgfebibaaDoor
namespace Rows

/-- THE TIED CARD OF 'varvelaw07.SchedRuns'. -/
def schedRunsCard : Claim7 := { stood := { row := schedRunsRow, standIns := [], harness := (true, "231db17551ffe811cd9ef7588426e3642a165113f79fbc750515efb2938ae2a8"), looks := true }, kinds := [], alts := [], laidByText := true, laidKinds := [.data], laidTests := true, laidLooks := .later }
def SchedRunsCardSaid : Prop := Claim7.holds Tryd.pinned (.plain (OpenSpec.ofChange schedRunsSpec)) schedRunsCard

/-- THE TIED CARD OF 'varvelaw07.SchedApart'. -/
def schedApartCard : Claim7 := { stood := { row := schedApartRow, standIns := [], harness := (true, "231db17551ffe811cd9ef7588426e3642a165113f79fbc750515efb2938ae2a8"), looks := true }, kinds := [], alts := [], laidByText := true, laidKinds := [.data], laidTests := true, laidLooks := .later }
def SchedApartCardSaid : Prop := Claim7.holds Tryd.pinned (.plain (OpenSpec.ofChange schedApartSpec)) schedApartCard

/-- THE TIED CARD OF 'varvelaw07.SchedCounts'. -/
def schedCountsCard : Claim7 := { stood := { row := schedCountsRow, standIns := [], harness := (true, "231db17551ffe811cd9ef7588426e3642a165113f79fbc750515efb2938ae2a8"), looks := true }, kinds := [], alts := [], laidByText := true, laidKinds := [.data], laidTests := true, laidLooks := .later }
def SchedCountsCardSaid : Prop := Claim7.holds Tryd.pinned (.plain (OpenSpec.ofChange schedCountsSpec)) schedCountsCard

/-- THE TIED CARD OF 'varvelaw07.SchedTurns'. -/
def schedTurnsCard : Claim7 := { stood := { row := schedTurnsRow, standIns := [], harness := (true, "231db17551ffe811cd9ef7588426e3642a165113f79fbc750515efb2938ae2a8"), looks := true }, kinds := [], alts := [], laidByText := true, laidKinds := [.data], laidTests := true, laidLooks := .later }
def SchedTurnsCardSaid : Prop := Claim7.holds Tryd.pinned (.plain (OpenSpec.ofChange schedTurnsSpec)) schedTurnsCard

/-- THE TIED CARD OF 'varvelaw07.SchedFair'. -/
def schedFairCard : Claim7 := { stood := { row := schedFairRow, standIns := [], harness := (true, "231db17551ffe811cd9ef7588426e3642a165113f79fbc750515efb2938ae2a8"), looks := true }, kinds := [], alts := [], laidByText := true, laidKinds := [.data], laidTests := true, laidLooks := .later }
def SchedFairCardSaid : Prop := Claim7.holds Tryd.pinned (.plain (OpenSpec.ofChange schedFairSpec)) schedFairCard

/-- THE TIED CARD OF 'varvelaw07.SchedKept'. -/
def schedKeptCard : Claim7 := { stood := { row := schedKeptRow, standIns := [], harness := (true, "231db17551ffe811cd9ef7588426e3642a165113f79fbc750515efb2938ae2a8"), looks := true }, kinds := [], alts := [], laidByText := true, laidKinds := [.data], laidTests := true, laidLooks := .later }
def SchedKeptCardSaid : Prop := Claim7.holds Tryd.pinned (.plain (OpenSpec.ofChange schedKeptSpec)) schedKeptCard

/-- THE SECOND FORM's CARD OF 'varvelaw07.SchedRuns'. -/
def schedRunsUptoCard : Claim7 := { stood := { row := schedRunsUptoRow, standIns := [], harness := (true, "231db17551ffe811cd9ef7588426e3642a165113f79fbc750515efb2938ae2a8"), looks := true }, kinds := [], alts := [], laidByText := true, laidKinds := [.data], laidTests := true, laidLooks := .later }
def SchedRunsUptoCardSaid : Prop := Claim7.holds Tryd.pinned (.plain (OpenSpec.upto schedRunsSpec)) schedRunsUptoCard

/-- THE SECOND FORM's CARD OF 'varvelaw07.SchedApart'. -/
def schedApartUptoCard : Claim7 := { stood := { row := schedApartUptoRow, standIns := [], harness := (true, "231db17551ffe811cd9ef7588426e3642a165113f79fbc750515efb2938ae2a8"), looks := true }, kinds := [], alts := [], laidByText := true, laidKinds := [.data], laidTests := true, laidLooks := .later }
def SchedApartUptoCardSaid : Prop := Claim7.holds Tryd.pinned (.plain (OpenSpec.upto schedApartSpec)) schedApartUptoCard

/-- THE SECOND FORM's CARD OF 'varvelaw07.SchedCounts'. -/
def schedCountsUptoCard : Claim7 := { stood := { row := schedCountsUptoRow, standIns := [], harness := (true, "231db17551ffe811cd9ef7588426e3642a165113f79fbc750515efb2938ae2a8"), looks := true }, kinds := [], alts := [], laidByText := true, laidKinds := [.data], laidTests := true, laidLooks := .later }
def SchedCountsUptoCardSaid : Prop := Claim7.holds Tryd.pinned (.plain (OpenSpec.upto schedCountsSpec)) schedCountsUptoCard

/-- THE SECOND FORM's CARD OF 'varvelaw07.SchedTurns'. -/
def schedTurnsUptoCard : Claim7 := { stood := { row := schedTurnsUptoRow, standIns := [], harness := (true, "231db17551ffe811cd9ef7588426e3642a165113f79fbc750515efb2938ae2a8"), looks := true }, kinds := [], alts := [], laidByText := true, laidKinds := [.data], laidTests := true, laidLooks := .later }
def SchedTurnsUptoCardSaid : Prop := Claim7.holds Tryd.pinned (.plain (OpenSpec.upto schedTurnsSpec)) schedTurnsUptoCard

/-- THE SECOND FORM's CARD OF 'varvelaw07.SchedFair'. -/
def schedFairUptoCard : Claim7 := { stood := { row := schedFairUptoRow, standIns := [], harness := (true, "231db17551ffe811cd9ef7588426e3642a165113f79fbc750515efb2938ae2a8"), looks := true }, kinds := [], alts := [], laidByText := true, laidKinds := [.data], laidTests := true, laidLooks := .later }
def SchedFairUptoCardSaid : Prop := Claim7.holds Tryd.pinned (.plain (OpenSpec.upto schedFairSpec)) schedFairUptoCard

/-- THE SECOND FORM's CARD OF 'varvelaw07.SchedKept'. -/
def schedKeptUptoCard : Claim7 := { stood := { row := schedKeptUptoRow, standIns := [], harness := (true, "231db17551ffe811cd9ef7588426e3642a165113f79fbc750515efb2938ae2a8"), looks := true }, kinds := [], alts := [], laidByText := true, laidKinds := [.data], laidTests := true, laidLooks := .later }
def SchedKeptUptoCardSaid : Prop := Claim7.holds Tryd.pinned (.plain (OpenSpec.upto schedKeptSpec)) schedKeptUptoCard
end Rows
end Go.Proofs.YtfipoadgfebibaaDoor
