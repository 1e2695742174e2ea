/- A slice of strings that came in, opened to its cells. Nothing is claimed of a program's calls here. -/
import Derived.Test.YtlaffmdflleeeaaDoorRowKit
import Derived.SliceStrings
namespace Go.Proofs.YtlaffmdflleeeaaDoor
open Go Go.ChangeShapes Go.WideShapes Go.ChangeAt Go.RowKit
set_option linter.unusedVariables false
theorem int_range {a : Int} (h : (Lit.int .i64 a).wf = true) : -9223372036854775808 ≤ a ∧ a < 9223372036854775808 := by
  simp only [Lit.wf, Bool.and_eq_true, decide_eq_true_eq] at h
  have e1 : IntKind.i64.min = -9223372036854775808 := by decide
  have e2 : IntKind.i64.max = 9223372036854775807 := by decide
  omega

section
variable {H : Type} {enc : TypeId × Value → H}

set_option maxRecDepth 100000 in
theorem strs_in {t e : TypeId} {W : World} {r : Reach} {b0 : Nat} {v : Value} {d : DataW H} {ps : List MemPlace} (ht : Tryd.prog.underlying t = some (.slice e)) (he : Tryd.prog.underlying e = some .string) (hc : Tryd.prog.cellsOf e = 1)
    (hval : Value.okWide Tryd.prog W r b0 t v) (h : DataW.Trod enc Tryd.prog W 0 (fun _ => true) true t v d ps) :
    ∃ p len cap ss, v = .slice p len cap ∧ ss.length = len ∧ len ≤ cap ∧ cap ≤ maxLen ∧ ((d = .nil ∧ len = 0) ∨ ∃ rest, d = .slice (strs ss) rest) ∧
      (0 < len → ∃ b off, p = some ⟨b, off, none⟩ ∧ b < W.heap.size ∧ ∀ i, i < len → W.cell? ⟨b, off + i, none⟩ = some (.string (ss.getD i ByteArray.empty))) := by
  obtain ⟨a0, len, cap, rfl⟩ := okWide_slice ht hval
  obtain ⟨fuel, hf⟩ := h
  rcases open_strings ht he hc hf with ⟨hcs, hx⟩ | ⟨a, len', cap', zs, hcs, _, hl, hm, hz, hx, hcell, hwz⟩
  · simp [Value.cells] at hcs
    obtain ⟨rfl, rfl, rfl⟩ := hcs
    simp only [Prod.mk.injEq] at hx
    exact ⟨_, _, _, [], rfl, rfl, Nat.le_refl _, Nat.zero_le _, .inl ⟨hx.1, rfl⟩, by omega⟩
  · simp [Value.cells] at hcs
    obtain ⟨rfl, rfl, rfl⟩ := hcs
    simp only [Prod.mk.injEq] at hx
    simp only [if_true] at hz
    have hlen : (zs.take len).length = len := by simp; omega
    refine ⟨_, _, _, zs.take len, rfl, hlen, hl, hm, .inr ⟨_, hx.1⟩, fun hpos => ?_⟩
    have h0 : W.cell? a = some (.string (zs.getD 0 ByteArray.empty)) := by have := hcell 0 (by omega); simpa [Addr.add] using this
    have hsp := World.cell?_spot h0
    obtain ⟨b, off, spot⟩ := a
    obtain rfl : spot = none := hsp
    have hcell' : ∀ i, i < len → W.cell? ⟨b, off + i, none⟩ = some (.string ((zs.take len).getD i ByteArray.empty)) := by
      intro i hi
      have := hcell i (by omega)
      simp only [Addr.add] at this
      have e : (zs.take len).getD i ByteArray.empty = zs.getD i ByteArray.empty := by simp [List.getD_eq_getElem?_getD, hi]
      rw [e]
      split at this
      · rename_i e0; subst e0; simpa using this
      · simpa using this
    refine ⟨b, off, rfl, ?_, hcell'⟩
    have := hcell' 0 hpos
    simp only [World.cell?] at this
    split at this
    · rename_i c _ _ hh
      exact (Array.getElem?_eq_some_iff.1 hh).1
    · cases this
end
end Go.Proofs.YtlaffmdflleeeaaDoor
