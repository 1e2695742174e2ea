/- The walk of the reference's Alloc where it takes a new cell, or none. -/
import Derived.Test.YtfipoadgfebibaaDoorRefAlloc
namespace Go.Proofs.YtfipoadgfebibaaDoor
open Go Go.RowKit
set_option linter.unusedVariables false

/-- What Alloc of a new cell leaves. -/
def RNew (w : World) (b : Nat) (hv tv : Value) (size : Int) (hs : List Int) (ts : List Bool) (many : Int) (w' : World) : Prop :=
  ∃ hv' tv', RfRep w' b hv' tv' size (hs ++ [0]) (ts ++ [true]) many ∧ Kept (b :: (rowsOf hv ++ rowsOf tv)) w w' ∧ (∀ k, hv'.ownBlock = some k → hv.ownBlock = some k ∨ w.heap.size ≤ k) ∧ (∀ k, tv'.ownBlock = some k → tv.ownBlock = some k ∨ w.heap.size ≤ k)

end Go.Proofs.YtfipoadgfebibaaDoor
