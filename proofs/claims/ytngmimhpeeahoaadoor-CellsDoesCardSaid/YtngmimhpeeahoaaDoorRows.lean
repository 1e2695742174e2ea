/-
  NARROWER THAN 'FOR EVERY INPUT', by the rows' own cells (each row's printed sentence says how): CellsAdd: laid · CellsOnce: laid · CellsBack: laid · CellsApart: laid · CellsDoes: laid · CellsNone: laid.
  DERIVED. THE GIVEN ROWS OF THIS SEAT. 6 by the template 'for every input the law returns true; each argument reads behind the call as it read before'; 0 by the template 'total and deterministic' (their statements: YtngmimhpeeahoaaDoorTotals.lean).
  GIVEN WITH THE SEED: the statements are not yours to turn. If you find one false, say at which input.
  Laid BY PROGRAM, IN A SANDBOX (cutbox-rows.mjs): the forced cells as the released guide's own fill.sh prints them over the translation 3062bc01729533b5… (all of the seat's roots in one cut). By AI agents, Wed Nov 11 2026. No macro, syntax, notation, axiom, sorry.
-/
import Derived.Test.YtngmimhpeeahoaaDoorChecked
import GoSem.Claim
import GoSem.ClaimJoined
import GoSem.ClaimMapViews
import Derived.JoinedTies
import Derived.KernelRfl
namespace Go.Proofs.YtngmimhpeeahoaaDoor
/- THE CELL 'sum', in the pinned program and in every row, IS THE sha256 OF THE DUMP (.gsa) THAT YtngmimhpeeahoaaDoorProg.lean LOADS. Nothing in Lean hashes anything: it is a label: what it is worth is what the hold of that sum in a sandbox is worth. -/
noncomputable def Tryd.pinned : Pinned := { name := "ytngmimhpeeahoaadoor", sum := "3062bc01729533b567ea333c067aadd600fc8bfd6483f8520dc7c6c579c87c20", checked := Tryd.checked }
namespace Rows
def none {H : Type} : Left H := { results := [], args := [] }

/- WHAT THE LISTED PACKAGE-LEVEL VARIABLES READ AS WHEN THE CALL BEGINS. Each datum BY PROGRAM (the guide's laid-datum.mjs) off the statement by which the dump's own 'gosem.cut.vars' lays the variable. In a bare row this is a premise. The card (YtngmimhpeeahoaaDoorCards.lean) ties it to the program's text. -/
def laid_math_bits_deBruijn64tab {H : Type} : DataW H := .agg [.lit (.int .u8 0), .lit (.int .u8 1), .lit (.int .u8 56), .lit (.int .u8 2), .lit (.int .u8 57), .lit (.int .u8 49), .lit (.int .u8 28), .lit (.int .u8 3), .lit (.int .u8 61), .lit (.int .u8 58), .lit (.int .u8 42), .lit (.int .u8 50), .lit (.int .u8 38), .lit (.int .u8 29), .lit (.int .u8 17), .lit (.int .u8 4), .lit (.int .u8 62), .lit (.int .u8 47), .lit (.int .u8 59), .lit (.int .u8 36), .lit (.int .u8 45), .lit (.int .u8 43), .lit (.int .u8 51), .lit (.int .u8 22), .lit (.int .u8 53), .lit (.int .u8 39), .lit (.int .u8 33), .lit (.int .u8 30), .lit (.int .u8 24), .lit (.int .u8 18), .lit (.int .u8 12), .lit (.int .u8 5), .lit (.int .u8 63), .lit (.int .u8 55), .lit (.int .u8 48), .lit (.int .u8 27), .lit (.int .u8 60), .lit (.int .u8 41), .lit (.int .u8 37), .lit (.int .u8 16), .lit (.int .u8 46), .lit (.int .u8 35), .lit (.int .u8 44), .lit (.int .u8 21), .lit (.int .u8 52), .lit (.int .u8 32), .lit (.int .u8 23), .lit (.int .u8 11), .lit (.int .u8 54), .lit (.int .u8 26), .lit (.int .u8 40), .lit (.int .u8 15), .lit (.int .u8 34), .lit (.int .u8 20), .lit (.int .u8 31), .lit (.int .u8 10), .lit (.int .u8 25), .lit (.int .u8 14), .lit (.int .u8 19), .lit (.int .u8 9), .lit (.int .u8 13), .lit (.int .u8 8), .lit (.int .u8 7), .lit (.int .u8 6)]

/-- 'varvelaw03.CellsAdd': WHATEVER THE INPUT: true; the input reads as it did. -/
def cellsAddSpec : ChangeSpec := { name := "cellsAdd", fn := fun _ => fun
  | [d] => { results := [.lit (.bool true)], args := [d] }
  | _ => none }
def cellsAddRow : OpenClaim := { program := "ytngmimhpeeahoaadoor", sum := "3062bc01729533b567ea333c067aadd600fc8bfd6483f8520dc7c6c579c87c20", func := "varve/varvelaw03.CellsAdd", spec := "cellsAdd", named := ["math/bits.deBruijn64tab"], apart := false, laid := [("math/bits.deBruijn64tab", laid_math_bits_deBruijn64tab)] }
def CellsAddSaid : Prop := cellsAddRow.holds Tryd.pinned (OpenSpec.ofChange cellsAddSpec)

/-- ITS FALSE NEIGHBOUR: 'it returns false'. Refute it at one input. -/
def cellsAddWrong : ChangeSpec := { name := "cellsAdd", fn := fun _ => fun
  | [d] => { results := [.lit (.bool false)], args := [d] }
  | _ => none }
def CellsAddWrongFalsely : Prop := cellsAddRow.holds Tryd.pinned (OpenSpec.ofChange cellsAddWrong)

/-- 'varvelaw03.CellsOnce': WHATEVER THE INPUT: true; the input reads as it did. -/
def cellsOnceSpec : ChangeSpec := { name := "cellsOnce", fn := fun _ => fun
  | [d1, d2] => { results := [.lit (.bool true)], args := [d1, d2] }
  | _ => none }
def cellsOnceRow : OpenClaim := { program := "ytngmimhpeeahoaadoor", sum := "3062bc01729533b567ea333c067aadd600fc8bfd6483f8520dc7c6c579c87c20", func := "varve/varvelaw03.CellsOnce", spec := "cellsOnce", named := ["math/bits.deBruijn64tab"], apart := false, laid := [("math/bits.deBruijn64tab", laid_math_bits_deBruijn64tab)] }
def CellsOnceSaid : Prop := cellsOnceRow.holds Tryd.pinned (OpenSpec.ofChange cellsOnceSpec)

/-- ITS FALSE NEIGHBOUR: 'it returns false'. Refute it at one input. -/
def cellsOnceWrong : ChangeSpec := { name := "cellsOnce", fn := fun _ => fun
  | [d1, d2] => { results := [.lit (.bool false)], args := [d1, d2] }
  | _ => none }
def CellsOnceWrongFalsely : Prop := cellsOnceRow.holds Tryd.pinned (OpenSpec.ofChange cellsOnceWrong)

/-- 'varvelaw03.CellsBack': WHATEVER THE INPUT: true; the input reads as it did. -/
def cellsBackSpec : ChangeSpec := { name := "cellsBack", fn := fun _ => fun
  | [d1, d2, d3] => { results := [.lit (.bool true)], args := [d1, d2, d3] }
  | _ => none }
def cellsBackRow : OpenClaim := { program := "ytngmimhpeeahoaadoor", sum := "3062bc01729533b567ea333c067aadd600fc8bfd6483f8520dc7c6c579c87c20", func := "varve/varvelaw03.CellsBack", spec := "cellsBack", named := ["math/bits.deBruijn64tab"], apart := false, laid := [("math/bits.deBruijn64tab", laid_math_bits_deBruijn64tab)] }
def CellsBackSaid : Prop := cellsBackRow.holds Tryd.pinned (OpenSpec.ofChange cellsBackSpec)

/-- ITS FALSE NEIGHBOUR: 'it returns false'. Refute it at one input. -/
def cellsBackWrong : ChangeSpec := { name := "cellsBack", fn := fun _ => fun
  | [d1, d2, d3] => { results := [.lit (.bool false)], args := [d1, d2, d3] }
  | _ => none }
def CellsBackWrongFalsely : Prop := cellsBackRow.holds Tryd.pinned (OpenSpec.ofChange cellsBackWrong)

/-- 'varvelaw03.CellsApart': WHATEVER THE INPUT: true; the input reads as it did. -/
def cellsApartSpec : ChangeSpec := { name := "cellsApart", fn := fun _ => fun
  | [d1, d2] => { results := [.lit (.bool true)], args := [d1, d2] }
  | _ => none }
def cellsApartRow : OpenClaim := { program := "ytngmimhpeeahoaadoor", sum := "3062bc01729533b567ea333c067aadd600fc8bfd6483f8520dc7c6c579c87c20", func := "varve/varvelaw03.CellsApart", spec := "cellsApart", unfollowed := true, recurses := true, named := ["math/bits.deBruijn64tab"], apart := false, laid := [("math/bits.deBruijn64tab", laid_math_bits_deBruijn64tab)] }
def CellsApartSaid : Prop := cellsApartRow.holds Tryd.pinned (OpenSpec.ofChange cellsApartSpec)

/-- ITS FALSE NEIGHBOUR: 'it returns false'. Refute it at one input. -/
def cellsApartWrong : ChangeSpec := { name := "cellsApart", fn := fun _ => fun
  | [d1, d2] => { results := [.lit (.bool false)], args := [d1, d2] }
  | _ => none }
def CellsApartWrongFalsely : Prop := cellsApartRow.holds Tryd.pinned (OpenSpec.ofChange cellsApartWrong)

/-- 'varvelaw03.CellsDoes': WHATEVER THE INPUT: true; the input reads as it did. -/
def cellsDoesSpec : ChangeSpec := { name := "cellsDoes", fn := fun _ => fun
  | [d1, d2] => { results := [.lit (.bool true)], args := [d1, d2] }
  | _ => none }
def cellsDoesRow : OpenClaim := { program := "ytngmimhpeeahoaadoor", sum := "3062bc01729533b567ea333c067aadd600fc8bfd6483f8520dc7c6c579c87c20", func := "varve/varvelaw03.CellsDoes", spec := "cellsDoes", unfollowed := true, recurses := true, named := ["math/bits.deBruijn64tab"], apart := false, laid := [("math/bits.deBruijn64tab", laid_math_bits_deBruijn64tab)] }
def CellsDoesSaid : Prop := cellsDoesRow.holds Tryd.pinned (OpenSpec.ofChange cellsDoesSpec)

/-- ITS FALSE NEIGHBOUR: 'it returns false'. Refute it at one input. -/
def cellsDoesWrong : ChangeSpec := { name := "cellsDoes", fn := fun _ => fun
  | [d1, d2] => { results := [.lit (.bool false)], args := [d1, d2] }
  | _ => none }
def CellsDoesWrongFalsely : Prop := cellsDoesRow.holds Tryd.pinned (OpenSpec.ofChange cellsDoesWrong)

/-- 'varvelaw03.CellsNone': WHATEVER THE INPUT: true; the input reads as it did. -/
def cellsNoneSpec : ChangeSpec := { name := "cellsNone", fn := fun _ => fun
  | [d1, d2] => { results := [.lit (.bool true)], args := [d1, d2] }
  | _ => none }
def cellsNoneRow : OpenClaim := { program := "ytngmimhpeeahoaadoor", sum := "3062bc01729533b567ea333c067aadd600fc8bfd6483f8520dc7c6c579c87c20", func := "varve/varvelaw03.CellsNone", spec := "cellsNone", unfollowed := true, recurses := true, named := ["math/bits.deBruijn64tab"], apart := false, laid := [("math/bits.deBruijn64tab", laid_math_bits_deBruijn64tab)] }
def CellsNoneSaid : Prop := cellsNoneRow.holds Tryd.pinned (OpenSpec.ofChange cellsNoneSpec)

/-- ITS FALSE NEIGHBOUR: 'it returns false'. Refute it at one input. -/
def cellsNoneWrong : ChangeSpec := { name := "cellsNone", fn := fun _ => fun
  | [d1, d2] => { results := [.lit (.bool false)], args := [d1, d2] }
  | _ => none }
def CellsNoneWrongFalsely : Prop := cellsNoneRow.holds Tryd.pinned (OpenSpec.ofChange cellsNoneWrong)

/- THE SECOND FORM. 'bulk': how many values and letters a reading holds, each counted each time it is reached (what is shared counts as often as it is met; a slice's spare places count too). A statement '..UptoSaid' is the law's where the arguments, and the package variables that the reading takes, are together of bulk at most 1048576: NARROWER than '..Said'. Prove '..Said' where nothing that the law and all that it calls make is longer than what came in: it says more and counts as full. Else prove '..UptoSaid'. A law counts once. -/
mutual
def uptoBulk {H : Type} : DataW H → Nat
  | .lit (.string bytes) => bytes.length + 1
  | .lit _ => 1
  | .nil => 1
  | .ptr d => uptoBulk d + 1
  | .slice elems spare => uptoBulkAll elems + uptoBulkAll spare + 1
  | .agg parts => uptoBulkAll parts + 1
  | .iface _ d => uptoBulk d + 1
  | .map entries => uptoBulkEntries entries + 1
  | .held _ => 1
def uptoBulkAll {H : Type} : List (DataW H) → Nat
  | [] => 0
  | d :: r => uptoBulk d + uptoBulkAll r
def uptoBulkEntries {H : Type} : List (Lit × DataW H) → Nat
  | [] => 0
  | x :: r => uptoBulkEntry x + uptoBulkEntries r
def uptoBulkEntry {H : Type} : Lit × DataW H → Nat
  | (.string bytes, d) => bytes.length + uptoBulk d + 1
  | (_, d) => uptoBulk d + 1
 end
def uptoSmall : (H : Type) → List (DataW H) → Bool := fun _ ds => decide (uptoBulkAll ds ≤ 1048576)
def OpenSpec.upto (s : _root_.Go.ChangeSpec) : _root_.Go.OpenSpec := { _root_.Go.OpenSpec.ofChange s with cond := some uptoSmall }

/-- 'varvelaw03.CellsAdd', WHERE WHAT IT READS IS OF BULK AT MOST 1048576: true; the input reads as it did. -/
def cellsAddUptoRow : OpenClaim := { program := "ytngmimhpeeahoaadoor", sum := "3062bc01729533b567ea333c067aadd600fc8bfd6483f8520dc7c6c579c87c20", func := "varve/varvelaw03.CellsAdd", spec := "cellsAdd", named := ["math/bits.deBruijn64tab"], apart := false, laid := [("math/bits.deBruijn64tab", laid_math_bits_deBruijn64tab)], narrowed := true }
def CellsAddUptoSaid : Prop := cellsAddUptoRow.holds Tryd.pinned (OpenSpec.upto cellsAddSpec)

/-- 'varvelaw03.CellsOnce', WHERE WHAT IT READS IS OF BULK AT MOST 1048576: true; the input reads as it did. -/
def cellsOnceUptoRow : OpenClaim := { program := "ytngmimhpeeahoaadoor", sum := "3062bc01729533b567ea333c067aadd600fc8bfd6483f8520dc7c6c579c87c20", func := "varve/varvelaw03.CellsOnce", spec := "cellsOnce", named := ["math/bits.deBruijn64tab"], apart := false, laid := [("math/bits.deBruijn64tab", laid_math_bits_deBruijn64tab)], narrowed := true }
def CellsOnceUptoSaid : Prop := cellsOnceUptoRow.holds Tryd.pinned (OpenSpec.upto cellsOnceSpec)

/-- 'varvelaw03.CellsBack', WHERE WHAT IT READS IS OF BULK AT MOST 1048576: true; the input reads as it did. -/
def cellsBackUptoRow : OpenClaim := { program := "ytngmimhpeeahoaadoor", sum := "3062bc01729533b567ea333c067aadd600fc8bfd6483f8520dc7c6c579c87c20", func := "varve/varvelaw03.CellsBack", spec := "cellsBack", named := ["math/bits.deBruijn64tab"], apart := false, laid := [("math/bits.deBruijn64tab", laid_math_bits_deBruijn64tab)], narrowed := true }
def CellsBackUptoSaid : Prop := cellsBackUptoRow.holds Tryd.pinned (OpenSpec.upto cellsBackSpec)

/-- 'varvelaw03.CellsApart', WHERE WHAT IT READS IS OF BULK AT MOST 1048576: true; the input reads as it did. -/
def cellsApartUptoRow : OpenClaim := { program := "ytngmimhpeeahoaadoor", sum := "3062bc01729533b567ea333c067aadd600fc8bfd6483f8520dc7c6c579c87c20", func := "varve/varvelaw03.CellsApart", spec := "cellsApart", unfollowed := true, recurses := true, named := ["math/bits.deBruijn64tab"], apart := false, laid := [("math/bits.deBruijn64tab", laid_math_bits_deBruijn64tab)], narrowed := true }
def CellsApartUptoSaid : Prop := cellsApartUptoRow.holds Tryd.pinned (OpenSpec.upto cellsApartSpec)

/-- 'varvelaw03.CellsDoes', WHERE WHAT IT READS IS OF BULK AT MOST 1048576: true; the input reads as it did. -/
def cellsDoesUptoRow : OpenClaim := { program := "ytngmimhpeeahoaadoor", sum := "3062bc01729533b567ea333c067aadd600fc8bfd6483f8520dc7c6c579c87c20", func := "varve/varvelaw03.CellsDoes", spec := "cellsDoes", unfollowed := true, recurses := true, named := ["math/bits.deBruijn64tab"], apart := false, laid := [("math/bits.deBruijn64tab", laid_math_bits_deBruijn64tab)], narrowed := true }
def CellsDoesUptoSaid : Prop := cellsDoesUptoRow.holds Tryd.pinned (OpenSpec.upto cellsDoesSpec)

/-- 'varvelaw03.CellsNone', WHERE WHAT IT READS IS OF BULK AT MOST 1048576: true; the input reads as it did. -/
def cellsNoneUptoRow : OpenClaim := { program := "ytngmimhpeeahoaadoor", sum := "3062bc01729533b567ea333c067aadd600fc8bfd6483f8520dc7c6c579c87c20", func := "varve/varvelaw03.CellsNone", spec := "cellsNone", unfollowed := true, recurses := true, named := ["math/bits.deBruijn64tab"], apart := false, laid := [("math/bits.deBruijn64tab", laid_math_bits_deBruijn64tab)], narrowed := true }
def CellsNoneUptoSaid : Prop := cellsNoneUptoRow.holds Tryd.pinned (OpenSpec.upto cellsNoneSpec)

end Rows
end Go.Proofs.YtngmimhpeeahoaaDoor
