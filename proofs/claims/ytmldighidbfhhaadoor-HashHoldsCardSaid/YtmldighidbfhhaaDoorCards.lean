/-
  DERIVED. GIVEN WITH THE SEED: THE CARDS: each row of YtmldighidbfhhaaDoorRows.lean that lists a variable, with what it lists TIED to the program's text (the seventh form; the later family's looks); each row that meets fmt, with fmt's text TOLD by the authors' own Lean function (tested against real Go, not proved from fmt's source: count such statements apart). THE CARD IS WHAT COUNTS. Prove the row's statement (the work); the ties are given (YtmldighidbfhhaaDoorTie.lean); close each card by the builder's one call (the guide's Derived/Test/ToyasCard.lean, 'card_holds'). Laid BY PROGRAM, IN A SANDBOX (cutbox-door.mjs). By AI agents, Wed Nov 11 2026. No macro, syntax, notation, axiom, sorry.
-/
import Derived.Test.YtmldighidbfhhaaDoorRows
import GoSem.ClaimSeven
namespace Go.Proofs.YtmldighidbfhhaaDoor
namespace Rows

/-- THE TIED CARD OF 'varvelaw09.HashBuckets'. -/
def hashBucketsCard : Claim7 := { stood := { row := hashBucketsRow, standIns := [], harness := (true, "1027dde8f7149298396263fa40b0d89ff66330683cf7e1051bf9dbf986c7608f"), looks := false }, kinds := [], alts := [], laidByText := true, laidKinds := [.data], laidTests := true, laidLooks := .later }
def HashBucketsCardSaid : Prop := Claim7.holds Tryd.pinned (.plain (OpenSpec.ofChange hashBucketsSpec)) hashBucketsCard

/-- THE TIED CARD OF 'varvelaw09.HashTogether'. -/
def hashTogetherCard : Claim7 := { stood := { row := hashTogetherRow, standIns := [], harness := (true, "1027dde8f7149298396263fa40b0d89ff66330683cf7e1051bf9dbf986c7608f"), looks := false }, kinds := [], alts := [], laidByText := true, laidKinds := [.data], laidTests := true, laidLooks := .later }
def HashTogetherCardSaid : Prop := Claim7.holds Tryd.pinned (.plain (OpenSpec.ofChange hashTogetherSpec)) hashTogetherCard

/-- THE TIED CARD OF 'varvelaw09.HashNone'. -/
def hashNoneCard : Claim7 := { stood := { row := hashNoneRow, standIns := [], harness := (true, "1027dde8f7149298396263fa40b0d89ff66330683cf7e1051bf9dbf986c7608f"), looks := false }, kinds := [], alts := [], laidByText := true, laidKinds := [.data], laidTests := true, laidLooks := .later }
def HashNoneCardSaid : Prop := Claim7.holds Tryd.pinned (.plain (OpenSpec.ofChange hashNoneSpec)) hashNoneCard

/-- THE TIED CARD OF 'varvelaw09.HashHolds'. -/
def hashHoldsCard : Claim7 := { stood := { row := hashHoldsRow, standIns := [], harness := (true, "1027dde8f7149298396263fa40b0d89ff66330683cf7e1051bf9dbf986c7608f"), looks := false }, kinds := [], alts := [], laidByText := true, laidKinds := [.data], laidTests := true, laidLooks := .later }
def HashHoldsCardSaid : Prop := Claim7.holds Tryd.pinned (.plain (OpenSpec.ofChange hashHoldsSpec)) hashHoldsCard

/-- THE SECOND FORM's CARD OF 'varvelaw09.HashBuckets'. -/
def hashBucketsUptoCard : Claim7 := { stood := { row := hashBucketsUptoRow, standIns := [], harness := (true, "1027dde8f7149298396263fa40b0d89ff66330683cf7e1051bf9dbf986c7608f"), looks := false }, kinds := [], alts := [], laidByText := true, laidKinds := [.data], laidTests := true, laidLooks := .later }
def HashBucketsUptoCardSaid : Prop := Claim7.holds Tryd.pinned (.plain (OpenSpec.upto hashBucketsSpec)) hashBucketsUptoCard

/-- THE SECOND FORM's CARD OF 'varvelaw09.HashTogether'. -/
def hashTogetherUptoCard : Claim7 := { stood := { row := hashTogetherUptoRow, standIns := [], harness := (true, "1027dde8f7149298396263fa40b0d89ff66330683cf7e1051bf9dbf986c7608f"), looks := false }, kinds := [], alts := [], laidByText := true, laidKinds := [.data], laidTests := true, laidLooks := .later }
def HashTogetherUptoCardSaid : Prop := Claim7.holds Tryd.pinned (.plain (OpenSpec.upto hashTogetherSpec)) hashTogetherUptoCard

/-- THE SECOND FORM's CARD OF 'varvelaw09.HashNone'. -/
def hashNoneUptoCard : Claim7 := { stood := { row := hashNoneUptoRow, standIns := [], harness := (true, "1027dde8f7149298396263fa40b0d89ff66330683cf7e1051bf9dbf986c7608f"), looks := false }, kinds := [], alts := [], laidByText := true, laidKinds := [.data], laidTests := true, laidLooks := .later }
def HashNoneUptoCardSaid : Prop := Claim7.holds Tryd.pinned (.plain (OpenSpec.upto hashNoneSpec)) hashNoneUptoCard

/-- THE SECOND FORM's CARD OF 'varvelaw09.HashHolds'. -/
def hashHoldsUptoCard : Claim7 := { stood := { row := hashHoldsUptoRow, standIns := [], harness := (true, "1027dde8f7149298396263fa40b0d89ff66330683cf7e1051bf9dbf986c7608f"), looks := false }, kinds := [], alts := [], laidByText := true, laidKinds := [.data], laidTests := true, laidLooks := .later }
def HashHoldsUptoCardSaid : Prop := Claim7.holds Tryd.pinned (.plain (OpenSpec.upto hashHoldsSpec)) hashHoldsUptoCard
end Rows
end Go.Proofs.YtmldighidbfhhaaDoor
