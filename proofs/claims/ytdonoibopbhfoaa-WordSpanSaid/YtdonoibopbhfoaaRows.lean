/-
  No cell of these rows narrows 'for every input' (looked for: loops, veiled, ifaces, maps, wideKeys, modest, calm, conditions, laid).
  DERIVED. THE GIVEN ROWS OF THIS SEAT. 6 by the template 'for every input the law returns true; each argument reads behind the call as it read before'; 0 by the template 'total and deterministic' (their statements: YtdonoibopbhfoaaTotals.lean).
  GIVEN WITH THE SEED: the statements are not yours to turn. If you find one false, say at which input.
  Laid BY PROGRAM, IN A SANDBOX (cutbox-rows.mjs): the forced cells as the released guide's own fill.sh prints them over the translation 556112d14ca478cd… (all of the seat's roots in one cut). By AI agents, Wed Nov 11 2026. No macro, syntax, notation, axiom, sorry.
-/
import Derived.Test.YtdonoibopbhfoaaChecked
import GoSem.Claim
import GoSem.ClaimJoined
import GoSem.ClaimMapViews
import Derived.JoinedTies
import Derived.KernelRfl
namespace Go.Proofs.Ytdonoibopbhfoaa
/- THE CELL 'sum', in the pinned program and in every row, IS THE sha256 OF THE DUMP (.gsa) THAT YtdonoibopbhfoaaProg.lean LOADS. Nothing in Lean hashes anything: it is a label: what it is worth is what the hold of that sum in a sandbox is worth. -/
noncomputable def Try.pinned : Pinned := { name := "ytdonoibopbhfoaa", sum := "556112d14ca478cd9cb66905d9f42cec69503338aad544ca191fc4282425a235", checked := Try.checked }
namespace Rows
def none {H : Type} : Left H := { results := [], args := [] }

/-- 'varvelaw05.WordSees': WHATEVER THE INPUT: true; the input reads as it did. -/
def wordSeesSpec : ChangeSpec := { name := "wordSees", fn := fun _ => fun
  | [d1, d2, d3, d4, d5, d6] => { results := [.lit (.bool true)], args := [d1, d2, d3, d4, d5, d6] }
  | _ => none }
def wordSeesRow : OpenClaim := { program := "ytdonoibopbhfoaa", sum := "556112d14ca478cd9cb66905d9f42cec69503338aad544ca191fc4282425a235", func := "varve/varvelaw05.WordSees", spec := "wordSees", apart := false }
def WordSeesSaid : Prop := wordSeesRow.holds Try.pinned (OpenSpec.ofChange wordSeesSpec)

/-- ITS FALSE NEIGHBOUR: 'it returns false'. Refute it at one input. -/
def wordSeesWrong : ChangeSpec := { name := "wordSees", fn := fun _ => fun
  | [d1, d2, d3, d4, d5, d6] => { results := [.lit (.bool false)], args := [d1, d2, d3, d4, d5, d6] }
  | _ => none }
def WordSeesWrongFalsely : Prop := wordSeesRow.holds Try.pinned (OpenSpec.ofChange wordSeesWrong)

/-- 'varvelaw05.WordSpan': WHATEVER THE INPUT: true; the input reads as it did. -/
def wordSpanSpec : ChangeSpec := { name := "wordSpan", fn := fun _ => fun
  | [d1, d2, d3, d4] => { results := [.lit (.bool true)], args := [d1, d2, d3, d4] }
  | _ => none }
def wordSpanRow : OpenClaim := { program := "ytdonoibopbhfoaa", sum := "556112d14ca478cd9cb66905d9f42cec69503338aad544ca191fc4282425a235", func := "varve/varvelaw05.WordSpan", spec := "wordSpan", apart := false }
def WordSpanSaid : Prop := wordSpanRow.holds Try.pinned (OpenSpec.ofChange wordSpanSpec)

/-- ITS FALSE NEIGHBOUR: 'it returns false'. Refute it at one input. -/
def wordSpanWrong : ChangeSpec := { name := "wordSpan", fn := fun _ => fun
  | [d1, d2, d3, d4] => { results := [.lit (.bool false)], args := [d1, d2, d3, d4] }
  | _ => none }
def WordSpanWrongFalsely : Prop := wordSpanRow.holds Try.pinned (OpenSpec.ofChange wordSpanWrong)

/-- 'varvelaw05.WordOwn': WHATEVER THE INPUT: true; the input reads as it did. -/
def wordOwnSpec : ChangeSpec := { name := "wordOwn", fn := fun _ => fun
  | [d1, d2, d3] => { results := [.lit (.bool true)], args := [d1, d2, d3] }
  | _ => none }
def wordOwnRow : OpenClaim := { program := "ytdonoibopbhfoaa", sum := "556112d14ca478cd9cb66905d9f42cec69503338aad544ca191fc4282425a235", func := "varve/varvelaw05.WordOwn", spec := "wordOwn", apart := false }
def WordOwnSaid : Prop := wordOwnRow.holds Try.pinned (OpenSpec.ofChange wordOwnSpec)

/-- ITS FALSE NEIGHBOUR: 'it returns false'. Refute it at one input. -/
def wordOwnWrong : ChangeSpec := { name := "wordOwn", fn := fun _ => fun
  | [d1, d2, d3] => { results := [.lit (.bool false)], args := [d1, d2, d3] }
  | _ => none }
def WordOwnWrongFalsely : Prop := wordOwnRow.holds Try.pinned (OpenSpec.ofChange wordOwnWrong)

/-- 'varvelaw05.WordSettles': WHATEVER THE INPUT: true; the input reads as it did. -/
def wordSettlesSpec : ChangeSpec := { name := "wordSettles", fn := fun _ => fun
  | [d1, d2, d3, d4, d5, d6] => { results := [.lit (.bool true)], args := [d1, d2, d3, d4, d5, d6] }
  | _ => none }
def wordSettlesRow : OpenClaim := { program := "ytdonoibopbhfoaa", sum := "556112d14ca478cd9cb66905d9f42cec69503338aad544ca191fc4282425a235", func := "varve/varvelaw05.WordSettles", spec := "wordSettles", apart := false }
def WordSettlesSaid : Prop := wordSettlesRow.holds Try.pinned (OpenSpec.ofChange wordSettlesSpec)

/-- ITS FALSE NEIGHBOUR: 'it returns false'. Refute it at one input. -/
def wordSettlesWrong : ChangeSpec := { name := "wordSettles", fn := fun _ => fun
  | [d1, d2, d3, d4, d5, d6] => { results := [.lit (.bool false)], args := [d1, d2, d3, d4, d5, d6] }
  | _ => none }
def WordSettlesWrongFalsely : Prop := wordSettlesRow.holds Try.pinned (OpenSpec.ofChange wordSettlesWrong)

/-- 'varvelaw05.WordPacks': WHATEVER THE INPUT: true; the input reads as it did. -/
def wordPacksSpec : ChangeSpec := { name := "wordPacks", fn := fun _ => fun
  | [d1, d2, d3, d4] => { results := [.lit (.bool true)], args := [d1, d2, d3, d4] }
  | _ => none }
def wordPacksRow : OpenClaim := { program := "ytdonoibopbhfoaa", sum := "556112d14ca478cd9cb66905d9f42cec69503338aad544ca191fc4282425a235", func := "varve/varvelaw05.WordPacks", spec := "wordPacks", apart := false }
def WordPacksSaid : Prop := wordPacksRow.holds Try.pinned (OpenSpec.ofChange wordPacksSpec)

/-- ITS FALSE NEIGHBOUR: 'it returns false'. Refute it at one input. -/
def wordPacksWrong : ChangeSpec := { name := "wordPacks", fn := fun _ => fun
  | [d1, d2, d3, d4] => { results := [.lit (.bool false)], args := [d1, d2, d3, d4] }
  | _ => none }
def WordPacksWrongFalsely : Prop := wordPacksRow.holds Try.pinned (OpenSpec.ofChange wordPacksWrong)

/-- 'varvelaw05.WordBack': WHATEVER THE INPUT: true; the input reads as it did. -/
def wordBackSpec : ChangeSpec := { name := "wordBack", fn := fun _ => fun
  | [d1, d2, d3, d4] => { results := [.lit (.bool true)], args := [d1, d2, d3, d4] }
  | _ => none }
def wordBackRow : OpenClaim := { program := "ytdonoibopbhfoaa", sum := "556112d14ca478cd9cb66905d9f42cec69503338aad544ca191fc4282425a235", func := "varve/varvelaw05.WordBack", spec := "wordBack", apart := false }
def WordBackSaid : Prop := wordBackRow.holds Try.pinned (OpenSpec.ofChange wordBackSpec)

/-- ITS FALSE NEIGHBOUR: 'it returns false'. Refute it at one input. -/
def wordBackWrong : ChangeSpec := { name := "wordBack", fn := fun _ => fun
  | [d1, d2, d3, d4] => { results := [.lit (.bool false)], args := [d1, d2, d3, d4] }
  | _ => none }
def WordBackWrongFalsely : Prop := wordBackRow.holds Try.pinned (OpenSpec.ofChange wordBackWrong)

/- THE SECOND FORM. 'bulk': how many values and letters a reading holds, each counted each time it is reached (what is shared counts as often as it is met; a slice's spare places count too). A statement '..UptoSaid' is the law's where the arguments, and the package variables that the reading takes, are together of bulk at most 1048576: NARROWER than '..Said'. Prove '..Said' where nothing that the law and all that it calls make is longer than what came in: it says more and counts as full. Else prove '..UptoSaid'. A law counts once. -/
mutual
def uptoBulk {H : Type} : DataW H → Nat
  | .lit (.string bytes) => bytes.length + 1
  | .lit _ => 1
  | .nil => 1
  | .ptr d => uptoBulk d + 1
  | .slice elems spare => uptoBulkAll elems + uptoBulkAll spare + 1
  | .agg parts => uptoBulkAll parts + 1
  | .iface _ d => uptoBulk d + 1
  | .map entries => uptoBulkEntries entries + 1
  | .held _ => 1
def uptoBulkAll {H : Type} : List (DataW H) → Nat
  | [] => 0
  | d :: r => uptoBulk d + uptoBulkAll r
def uptoBulkEntries {H : Type} : List (Lit × DataW H) → Nat
  | [] => 0
  | x :: r => uptoBulkEntry x + uptoBulkEntries r
def uptoBulkEntry {H : Type} : Lit × DataW H → Nat
  | (.string bytes, d) => bytes.length + uptoBulk d + 1
  | (_, d) => uptoBulk d + 1
 end
def uptoSmall : (H : Type) → List (DataW H) → Bool := fun _ ds => decide (uptoBulkAll ds ≤ 1048576)
def OpenSpec.upto (s : _root_.Go.ChangeSpec) : _root_.Go.OpenSpec := { _root_.Go.OpenSpec.ofChange s with cond := some uptoSmall }

/-- 'varvelaw05.WordSees', WHERE WHAT IT READS IS OF BULK AT MOST 1048576: true; the input reads as it did. -/
def wordSeesUptoRow : OpenClaim := { program := "ytdonoibopbhfoaa", sum := "556112d14ca478cd9cb66905d9f42cec69503338aad544ca191fc4282425a235", func := "varve/varvelaw05.WordSees", spec := "wordSees", apart := false, narrowed := true }
def WordSeesUptoSaid : Prop := wordSeesUptoRow.holds Try.pinned (OpenSpec.upto wordSeesSpec)

/-- 'varvelaw05.WordSpan', WHERE WHAT IT READS IS OF BULK AT MOST 1048576: true; the input reads as it did. -/
def wordSpanUptoRow : OpenClaim := { program := "ytdonoibopbhfoaa", sum := "556112d14ca478cd9cb66905d9f42cec69503338aad544ca191fc4282425a235", func := "varve/varvelaw05.WordSpan", spec := "wordSpan", apart := false, narrowed := true }
def WordSpanUptoSaid : Prop := wordSpanUptoRow.holds Try.pinned (OpenSpec.upto wordSpanSpec)

/-- 'varvelaw05.WordOwn', WHERE WHAT IT READS IS OF BULK AT MOST 1048576: true; the input reads as it did. -/
def wordOwnUptoRow : OpenClaim := { program := "ytdonoibopbhfoaa", sum := "556112d14ca478cd9cb66905d9f42cec69503338aad544ca191fc4282425a235", func := "varve/varvelaw05.WordOwn", spec := "wordOwn", apart := false, narrowed := true }
def WordOwnUptoSaid : Prop := wordOwnUptoRow.holds Try.pinned (OpenSpec.upto wordOwnSpec)

/-- 'varvelaw05.WordSettles', WHERE WHAT IT READS IS OF BULK AT MOST 1048576: true; the input reads as it did. -/
def wordSettlesUptoRow : OpenClaim := { program := "ytdonoibopbhfoaa", sum := "556112d14ca478cd9cb66905d9f42cec69503338aad544ca191fc4282425a235", func := "varve/varvelaw05.WordSettles", spec := "wordSettles", apart := false, narrowed := true }
def WordSettlesUptoSaid : Prop := wordSettlesUptoRow.holds Try.pinned (OpenSpec.upto wordSettlesSpec)

/-- 'varvelaw05.WordPacks', WHERE WHAT IT READS IS OF BULK AT MOST 1048576: true; the input reads as it did. -/
def wordPacksUptoRow : OpenClaim := { program := "ytdonoibopbhfoaa", sum := "556112d14ca478cd9cb66905d9f42cec69503338aad544ca191fc4282425a235", func := "varve/varvelaw05.WordPacks", spec := "wordPacks", apart := false, narrowed := true }
def WordPacksUptoSaid : Prop := wordPacksUptoRow.holds Try.pinned (OpenSpec.upto wordPacksSpec)

/-- 'varvelaw05.WordBack', WHERE WHAT IT READS IS OF BULK AT MOST 1048576: true; the input reads as it did. -/
def wordBackUptoRow : OpenClaim := { program := "ytdonoibopbhfoaa", sum := "556112d14ca478cd9cb66905d9f42cec69503338aad544ca191fc4282425a235", func := "varve/varvelaw05.WordBack", spec := "wordBack", apart := false, narrowed := true }
def WordBackUptoSaid : Prop := wordBackUptoRow.holds Try.pinned (OpenSpec.upto wordBackSpec)

end Rows
end Go.Proofs.Ytdonoibopbhfoaa
