/- A fate that came in. Nothing is claimed of a program's calls here. -/
import Derived.Test.YtbankfdgoolbdaaDkOpen
namespace Go.Proofs.Ytbankfdgoolbdaa
open Go Go.ChangeShapes Go.WideShapes Go.ChangeAt Go.RowKit
set_option linter.unusedVariables false
set_option maxRecDepth 100000 in
theorem fate_in {H : Type} {enc : TypeId × Value → H} {W : World} {r : Reach} {b0 : Nat} {v : Value} {x : DataW H} {ps : List MemPlace} (hval : Value.okWide Try.prog W r b0 29 v)
    (h : DataW.Trod enc Try.prog W 0 (fun _ => true) true 29 v x ps) : ∃ k d t, v = FateV k d t ∧ Rng k ∧ Rng d ∧ Rng t := by
  unfold Value.okWide at hval
  rw [rk_fate] at hval
  obtain ⟨cs, rfl, _, _⟩ := hval
  obtain ⟨fuel, hf⟩ := h
  obtain ⟨k, d, t, e, h1, h2, h3⟩ := fate_cells hf
  refine ⟨k, d, t, ?_, h1, h2, h3⟩
  unfold FateV
  congr 1
  have : cs.toList = [.int .i64 k, .int .i64 d, .int .i64 t] := e
  obtain ⟨l⟩ := cs
  simp at this
  rw [this]
end Go.Proofs.Ytbankfdgoolbdaa
