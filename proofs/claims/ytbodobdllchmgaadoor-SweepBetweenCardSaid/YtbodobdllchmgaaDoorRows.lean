/-
  NARROWER THAN 'FOR EVERY INPUT', by the rows' own cells (each row's printed sentence says how): SweepNone: laid · SweepMarks: laid · SweepLeast: laid · SweepTakes: laid · SweepKeeps: laid · SweepBetween: laid.
  DERIVED. THE GIVEN ROWS OF THIS SEAT. 6 by the template 'for every input the law returns true; each argument reads behind the call as it read before'; 0 by the template 'total and deterministic' (their statements: YtbodobdllchmgaaDoorTotals.lean).
  GIVEN WITH THE SEED: the statements are not yours to turn. If you find one false, say at which input.
  Laid BY PROGRAM, IN A SANDBOX (cutbox-rows.mjs): the forced cells as the released guide's own fill.sh prints them over the translation 2e2040a0617b4720… (all of the seat's roots in one cut). By AI agents, Wed Nov 11 2026. No macro, syntax, notation, axiom, sorry.
-/
import Derived.Test.YtbodobdllchmgaaDoorChecked
import GoSem.Claim
import GoSem.ClaimJoined
import GoSem.ClaimMapViews
import Derived.JoinedTies
import Derived.KernelRfl
namespace Go.Proofs.YtbodobdllchmgaaDoor
/- THE CELL 'sum', in the pinned program and in every row, IS THE sha256 OF THE DUMP (.gsa) THAT YtbodobdllchmgaaDoorProg.lean LOADS. Nothing in Lean hashes anything: it is a label: what it is worth is what the hold of that sum in a sandbox is worth. -/
noncomputable def Tryd.pinned : Pinned := { name := "ytbodobdllchmgaadoor", sum := "2e2040a0617b47209f9dd4b26fbe5ef159b17571fd87ffe83f24bd1f3f85e6fc", checked := Tryd.checked }
namespace Rows
def none {H : Type} : Left H := { results := [], args := [] }

/- WHAT THE LISTED PACKAGE-LEVEL VARIABLES READ AS WHEN THE CALL BEGINS. Each datum BY PROGRAM (the guide's laid-datum.mjs) off the statement by which the dump's own 'gosem.cut.vars' lays the variable. In a bare row this is a premise. The card (YtbodobdllchmgaaDoorCards.lean) ties it to the program's text. -/
def laid_math_bits_deBruijn64tab {H : Type} : DataW H := .agg [.lit (.int .u8 0), .lit (.int .u8 1), .lit (.int .u8 56), .lit (.int .u8 2), .lit (.int .u8 57), .lit (.int .u8 49), .lit (.int .u8 28), .lit (.int .u8 3), .lit (.int .u8 61), .lit (.int .u8 58), .lit (.int .u8 42), .lit (.int .u8 50), .lit (.int .u8 38), .lit (.int .u8 29), .lit (.int .u8 17), .lit (.int .u8 4), .lit (.int .u8 62), .lit (.int .u8 47), .lit (.int .u8 59), .lit (.int .u8 36), .lit (.int .u8 45), .lit (.int .u8 43), .lit (.int .u8 51), .lit (.int .u8 22), .lit (.int .u8 53), .lit (.int .u8 39), .lit (.int .u8 33), .lit (.int .u8 30), .lit (.int .u8 24), .lit (.int .u8 18), .lit (.int .u8 12), .lit (.int .u8 5), .lit (.int .u8 63), .lit (.int .u8 55), .lit (.int .u8 48), .lit (.int .u8 27), .lit (.int .u8 60), .lit (.int .u8 41), .lit (.int .u8 37), .lit (.int .u8 16), .lit (.int .u8 46), .lit (.int .u8 35), .lit (.int .u8 44), .lit (.int .u8 21), .lit (.int .u8 52), .lit (.int .u8 32), .lit (.int .u8 23), .lit (.int .u8 11), .lit (.int .u8 54), .lit (.int .u8 26), .lit (.int .u8 40), .lit (.int .u8 15), .lit (.int .u8 34), .lit (.int .u8 20), .lit (.int .u8 31), .lit (.int .u8 10), .lit (.int .u8 25), .lit (.int .u8 14), .lit (.int .u8 19), .lit (.int .u8 9), .lit (.int .u8 13), .lit (.int .u8 8), .lit (.int .u8 7), .lit (.int .u8 6)]

/-- 'varvelaw15.SweepNone': WHATEVER THE INPUT: true; the input reads as it did. -/
def sweepNoneSpec : ChangeSpec := { name := "sweepNone", fn := fun _ => fun
  | [d1, d2] => { results := [.lit (.bool true)], args := [d1, d2] }
  | _ => none }
def sweepNoneRow : OpenClaim := { program := "ytbodobdllchmgaadoor", sum := "2e2040a0617b47209f9dd4b26fbe5ef159b17571fd87ffe83f24bd1f3f85e6fc", func := "varve/varvelaw15.SweepNone", spec := "sweepNone", unfollowed := true, recurses := true, named := ["math/bits.deBruijn64tab"], apart := false, laid := [("math/bits.deBruijn64tab", laid_math_bits_deBruijn64tab)] }
def SweepNoneSaid : Prop := sweepNoneRow.holds Tryd.pinned (OpenSpec.ofChange sweepNoneSpec)

/-- ITS FALSE NEIGHBOUR: 'it returns false'. Refute it at one input. -/
def sweepNoneWrong : ChangeSpec := { name := "sweepNone", fn := fun _ => fun
  | [d1, d2] => { results := [.lit (.bool false)], args := [d1, d2] }
  | _ => none }
def SweepNoneWrongFalsely : Prop := sweepNoneRow.holds Tryd.pinned (OpenSpec.ofChange sweepNoneWrong)

/-- 'varvelaw15.SweepMarks': WHATEVER THE INPUT: true; the input reads as it did. -/
def sweepMarksSpec : ChangeSpec := { name := "sweepMarks", fn := fun _ => fun
  | [d1, d2, d3, d4, d5] => { results := [.lit (.bool true)], args := [d1, d2, d3, d4, d5] }
  | _ => none }
def sweepMarksRow : OpenClaim := { program := "ytbodobdllchmgaadoor", sum := "2e2040a0617b47209f9dd4b26fbe5ef159b17571fd87ffe83f24bd1f3f85e6fc", func := "varve/varvelaw15.SweepMarks", spec := "sweepMarks", unfollowed := true, recurses := true, named := ["math/bits.deBruijn64tab"], apart := false, laid := [("math/bits.deBruijn64tab", laid_math_bits_deBruijn64tab)] }
def SweepMarksSaid : Prop := sweepMarksRow.holds Tryd.pinned (OpenSpec.ofChange sweepMarksSpec)

/-- ITS FALSE NEIGHBOUR: 'it returns false'. Refute it at one input. -/
def sweepMarksWrong : ChangeSpec := { name := "sweepMarks", fn := fun _ => fun
  | [d1, d2, d3, d4, d5] => { results := [.lit (.bool false)], args := [d1, d2, d3, d4, d5] }
  | _ => none }
def SweepMarksWrongFalsely : Prop := sweepMarksRow.holds Tryd.pinned (OpenSpec.ofChange sweepMarksWrong)

/-- 'varvelaw15.SweepLeast': WHATEVER THE INPUT: true; the input reads as it did. -/
def sweepLeastSpec : ChangeSpec := { name := "sweepLeast", fn := fun _ => fun
  | [d1, d2] => { results := [.lit (.bool true)], args := [d1, d2] }
  | _ => none }
def sweepLeastRow : OpenClaim := { program := "ytbodobdllchmgaadoor", sum := "2e2040a0617b47209f9dd4b26fbe5ef159b17571fd87ffe83f24bd1f3f85e6fc", func := "varve/varvelaw15.SweepLeast", spec := "sweepLeast", unfollowed := true, recurses := true, named := ["math/bits.deBruijn64tab"], apart := false, laid := [("math/bits.deBruijn64tab", laid_math_bits_deBruijn64tab)] }
def SweepLeastSaid : Prop := sweepLeastRow.holds Tryd.pinned (OpenSpec.ofChange sweepLeastSpec)

/-- ITS FALSE NEIGHBOUR: 'it returns false'. Refute it at one input. -/
def sweepLeastWrong : ChangeSpec := { name := "sweepLeast", fn := fun _ => fun
  | [d1, d2] => { results := [.lit (.bool false)], args := [d1, d2] }
  | _ => none }
def SweepLeastWrongFalsely : Prop := sweepLeastRow.holds Tryd.pinned (OpenSpec.ofChange sweepLeastWrong)

/-- 'varvelaw15.SweepTakes': WHATEVER THE INPUT: true; the input reads as it did. -/
def sweepTakesSpec : ChangeSpec := { name := "sweepTakes", fn := fun _ => fun
  | [d1, d2, d3] => { results := [.lit (.bool true)], args := [d1, d2, d3] }
  | _ => none }
def sweepTakesRow : OpenClaim := { program := "ytbodobdllchmgaadoor", sum := "2e2040a0617b47209f9dd4b26fbe5ef159b17571fd87ffe83f24bd1f3f85e6fc", func := "varve/varvelaw15.SweepTakes", spec := "sweepTakes", unfollowed := true, recurses := true, named := ["math/bits.deBruijn64tab"], apart := false, laid := [("math/bits.deBruijn64tab", laid_math_bits_deBruijn64tab)] }
def SweepTakesSaid : Prop := sweepTakesRow.holds Tryd.pinned (OpenSpec.ofChange sweepTakesSpec)

/-- ITS FALSE NEIGHBOUR: 'it returns false'. Refute it at one input. -/
def sweepTakesWrong : ChangeSpec := { name := "sweepTakes", fn := fun _ => fun
  | [d1, d2, d3] => { results := [.lit (.bool false)], args := [d1, d2, d3] }
  | _ => none }
def SweepTakesWrongFalsely : Prop := sweepTakesRow.holds Tryd.pinned (OpenSpec.ofChange sweepTakesWrong)

/-- 'varvelaw15.SweepKeeps': WHATEVER THE INPUT: true; the input reads as it did. -/
def sweepKeepsSpec : ChangeSpec := { name := "sweepKeeps", fn := fun _ => fun
  | [d1, d2] => { results := [.lit (.bool true)], args := [d1, d2] }
  | _ => none }
def sweepKeepsRow : OpenClaim := { program := "ytbodobdllchmgaadoor", sum := "2e2040a0617b47209f9dd4b26fbe5ef159b17571fd87ffe83f24bd1f3f85e6fc", func := "varve/varvelaw15.SweepKeeps", spec := "sweepKeeps", unfollowed := true, recurses := true, named := ["math/bits.deBruijn64tab"], apart := false, laid := [("math/bits.deBruijn64tab", laid_math_bits_deBruijn64tab)] }
def SweepKeepsSaid : Prop := sweepKeepsRow.holds Tryd.pinned (OpenSpec.ofChange sweepKeepsSpec)

/-- ITS FALSE NEIGHBOUR: 'it returns false'. Refute it at one input. -/
def sweepKeepsWrong : ChangeSpec := { name := "sweepKeeps", fn := fun _ => fun
  | [d1, d2] => { results := [.lit (.bool false)], args := [d1, d2] }
  | _ => none }
def SweepKeepsWrongFalsely : Prop := sweepKeepsRow.holds Tryd.pinned (OpenSpec.ofChange sweepKeepsWrong)

/-- 'varvelaw15.SweepBetween': WHATEVER THE INPUT: true; the input reads as it did. -/
def sweepBetweenSpec : ChangeSpec := { name := "sweepBetween", fn := fun _ => fun
  | [d1, d2, d3] => { results := [.lit (.bool true)], args := [d1, d2, d3] }
  | _ => none }
def sweepBetweenRow : OpenClaim := { program := "ytbodobdllchmgaadoor", sum := "2e2040a0617b47209f9dd4b26fbe5ef159b17571fd87ffe83f24bd1f3f85e6fc", func := "varve/varvelaw15.SweepBetween", spec := "sweepBetween", unfollowed := true, recurses := true, named := ["math/bits.deBruijn64tab"], apart := false, laid := [("math/bits.deBruijn64tab", laid_math_bits_deBruijn64tab)] }
def SweepBetweenSaid : Prop := sweepBetweenRow.holds Tryd.pinned (OpenSpec.ofChange sweepBetweenSpec)

/-- ITS FALSE NEIGHBOUR: 'it returns false'. Refute it at one input. -/
def sweepBetweenWrong : ChangeSpec := { name := "sweepBetween", fn := fun _ => fun
  | [d1, d2, d3] => { results := [.lit (.bool false)], args := [d1, d2, d3] }
  | _ => none }
def SweepBetweenWrongFalsely : Prop := sweepBetweenRow.holds Tryd.pinned (OpenSpec.ofChange sweepBetweenWrong)

/- THE SECOND FORM. 'bulk': how many values and letters a reading holds, each counted each time it is reached (what is shared counts as often as it is met; a slice's spare places count too). A statement '..UptoSaid' is the law's where the arguments, and the package variables that the reading takes, are together of bulk at most 1048576: NARROWER than '..Said'. Prove '..Said' where nothing that the law and all that it calls make is longer than what came in: it says more and counts as full. Else prove '..UptoSaid'. A law counts once. -/
mutual
def uptoBulk {H : Type} : DataW H → Nat
  | .lit (.string bytes) => bytes.length + 1
  | .lit _ => 1
  | .nil => 1
  | .ptr d => uptoBulk d + 1
  | .slice elems spare => uptoBulkAll elems + uptoBulkAll spare + 1
  | .agg parts => uptoBulkAll parts + 1
  | .iface _ d => uptoBulk d + 1
  | .map entries => uptoBulkEntries entries + 1
  | .held _ => 1
def uptoBulkAll {H : Type} : List (DataW H) → Nat
  | [] => 0
  | d :: r => uptoBulk d + uptoBulkAll r
def uptoBulkEntries {H : Type} : List (Lit × DataW H) → Nat
  | [] => 0
  | x :: r => uptoBulkEntry x + uptoBulkEntries r
def uptoBulkEntry {H : Type} : Lit × DataW H → Nat
  | (.string bytes, d) => bytes.length + uptoBulk d + 1
  | (_, d) => uptoBulk d + 1
 end
def uptoSmall : (H : Type) → List (DataW H) → Bool := fun _ ds => decide (uptoBulkAll ds ≤ 1048576)
def OpenSpec.upto (s : _root_.Go.ChangeSpec) : _root_.Go.OpenSpec := { _root_.Go.OpenSpec.ofChange s with cond := some uptoSmall }

/-- 'varvelaw15.SweepNone', WHERE WHAT IT READS IS OF BULK AT MOST 1048576: true; the input reads as it did. -/
def sweepNoneUptoRow : OpenClaim := { program := "ytbodobdllchmgaadoor", sum := "2e2040a0617b47209f9dd4b26fbe5ef159b17571fd87ffe83f24bd1f3f85e6fc", func := "varve/varvelaw15.SweepNone", spec := "sweepNone", unfollowed := true, recurses := true, named := ["math/bits.deBruijn64tab"], apart := false, laid := [("math/bits.deBruijn64tab", laid_math_bits_deBruijn64tab)], narrowed := true }
def SweepNoneUptoSaid : Prop := sweepNoneUptoRow.holds Tryd.pinned (OpenSpec.upto sweepNoneSpec)

/-- 'varvelaw15.SweepMarks', WHERE WHAT IT READS IS OF BULK AT MOST 1048576: true; the input reads as it did. -/
def sweepMarksUptoRow : OpenClaim := { program := "ytbodobdllchmgaadoor", sum := "2e2040a0617b47209f9dd4b26fbe5ef159b17571fd87ffe83f24bd1f3f85e6fc", func := "varve/varvelaw15.SweepMarks", spec := "sweepMarks", unfollowed := true, recurses := true, named := ["math/bits.deBruijn64tab"], apart := false, laid := [("math/bits.deBruijn64tab", laid_math_bits_deBruijn64tab)], narrowed := true }
def SweepMarksUptoSaid : Prop := sweepMarksUptoRow.holds Tryd.pinned (OpenSpec.upto sweepMarksSpec)

/-- 'varvelaw15.SweepLeast', WHERE WHAT IT READS IS OF BULK AT MOST 1048576: true; the input reads as it did. -/
def sweepLeastUptoRow : OpenClaim := { program := "ytbodobdllchmgaadoor", sum := "2e2040a0617b47209f9dd4b26fbe5ef159b17571fd87ffe83f24bd1f3f85e6fc", func := "varve/varvelaw15.SweepLeast", spec := "sweepLeast", unfollowed := true, recurses := true, named := ["math/bits.deBruijn64tab"], apart := false, laid := [("math/bits.deBruijn64tab", laid_math_bits_deBruijn64tab)], narrowed := true }
def SweepLeastUptoSaid : Prop := sweepLeastUptoRow.holds Tryd.pinned (OpenSpec.upto sweepLeastSpec)

/-- 'varvelaw15.SweepTakes', WHERE WHAT IT READS IS OF BULK AT MOST 1048576: true; the input reads as it did. -/
def sweepTakesUptoRow : OpenClaim := { program := "ytbodobdllchmgaadoor", sum := "2e2040a0617b47209f9dd4b26fbe5ef159b17571fd87ffe83f24bd1f3f85e6fc", func := "varve/varvelaw15.SweepTakes", spec := "sweepTakes", unfollowed := true, recurses := true, named := ["math/bits.deBruijn64tab"], apart := false, laid := [("math/bits.deBruijn64tab", laid_math_bits_deBruijn64tab)], narrowed := true }
def SweepTakesUptoSaid : Prop := sweepTakesUptoRow.holds Tryd.pinned (OpenSpec.upto sweepTakesSpec)

/-- 'varvelaw15.SweepKeeps', WHERE WHAT IT READS IS OF BULK AT MOST 1048576: true; the input reads as it did. -/
def sweepKeepsUptoRow : OpenClaim := { program := "ytbodobdllchmgaadoor", sum := "2e2040a0617b47209f9dd4b26fbe5ef159b17571fd87ffe83f24bd1f3f85e6fc", func := "varve/varvelaw15.SweepKeeps", spec := "sweepKeeps", unfollowed := true, recurses := true, named := ["math/bits.deBruijn64tab"], apart := false, laid := [("math/bits.deBruijn64tab", laid_math_bits_deBruijn64tab)], narrowed := true }
def SweepKeepsUptoSaid : Prop := sweepKeepsUptoRow.holds Tryd.pinned (OpenSpec.upto sweepKeepsSpec)

/-- 'varvelaw15.SweepBetween', WHERE WHAT IT READS IS OF BULK AT MOST 1048576: true; the input reads as it did. -/
def sweepBetweenUptoRow : OpenClaim := { program := "ytbodobdllchmgaadoor", sum := "2e2040a0617b47209f9dd4b26fbe5ef159b17571fd87ffe83f24bd1f3f85e6fc", func := "varve/varvelaw15.SweepBetween", spec := "sweepBetween", unfollowed := true, recurses := true, named := ["math/bits.deBruijn64tab"], apart := false, laid := [("math/bits.deBruijn64tab", laid_math_bits_deBruijn64tab)], narrowed := true }
def SweepBetweenUptoSaid : Prop := sweepBetweenUptoRow.holds Tryd.pinned (OpenSpec.upto sweepBetweenSpec)

end Rows
end Go.Proofs.YtbodobdllchmgaaDoor
