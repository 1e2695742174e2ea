/- Slices of numbers that came in: nil or not. Nothing is claimed of a program's calls here. -/
import Derived.Test.YtpckpgdkfimapaaDoorRowKit
namespace Go.Proofs.YtpckpgdkfimapaaDoor
open Go Go.ChangeShapes Go.WideShapes Go.ChangeAt Go.RowKit
set_option linter.unusedVariables false
section
variable {H : Type} {enc : TypeId × Value → H}

set_option maxRecDepth 100000 in
/-- A slice of integers that came in. -/
theorem ints_in2 {t e : TypeId} {k : IntKind} {W : World} {r : Reach} {b0 : Nat} {v : Value} {d : DataW H} {ps : List MemPlace} (ht : Tryd.prog.underlying t = some (.slice e)) (he : Tryd.prog.underlying e = some (.int k)) (hc : Tryd.prog.cellsOf e = 1)
    (hval : Value.okWide Tryd.prog W r b0 t v) (h : DataW.Trod enc Tryd.prog W 0 (fun _ => true) true t v d ps) :
    ∃ p len cap zs, v = .slice p len cap ∧ zs.length = len ∧ len ≤ cap ∧ cap ≤ maxLen ∧ (∀ n ∈ zs, (Lit.int k n).wf = true) ∧ (p = none → len = 0 ∧ cap = 0) ∧ ((d = .nil ∧ len = 0) ∨ ∃ rest, d = .slice (lits k zs) rest) ∧
      (0 < len → ∃ b off, p = some ⟨b, off, none⟩ ∧ b < W.heap.size ∧ ∀ i, i < len → W.cell? ⟨b, off + i, none⟩ = some (.int k (zs.getD i 0))) := by
  obtain ⟨a0, len, cap, rfl⟩ := okWide_slice ht hval
  obtain ⟨fuel, hf⟩ := h
  rcases open_ints ht he hc hf with ⟨hcs, hx⟩ | ⟨a, len', cap', zs, hcs, _, hl, hm, hz, hx, hcell, hwz⟩
  · simp [Value.cells] at hcs
    obtain ⟨rfl, rfl, rfl⟩ := hcs
    simp only [Prod.mk.injEq] at hx
    exact ⟨_, _, _, [], rfl, rfl, Nat.le_refl _, Nat.zero_le _, by simp, fun _ => ⟨rfl, rfl⟩, .inl ⟨hx.1, rfl⟩, by omega⟩
  · simp [Value.cells] at hcs
    obtain ⟨rfl, rfl, rfl⟩ := hcs
    simp only [Prod.mk.injEq] at hx
    simp only [if_true] at hz
    have hlen : (zs.take len).length = len := by simp; omega
    refine ⟨_, _, _, zs.take len, rfl, hlen, hl, hm, fun n hn => hwz n (List.mem_of_mem_take hn), fun e => (by cases e), .inr ⟨_, hx.1⟩, fun hpos => ?_⟩
    have h0 : W.cell? a = some (.int k (zs.getD 0 0)) := by have := hcell 0 (by omega); simpa [Addr.add] using this
    have hsp := World.cell?_spot h0
    obtain ⟨b, off, spot⟩ := a
    obtain rfl : spot = none := hsp
    have hcell' : ∀ i, i < len → W.cell? ⟨b, off + i, none⟩ = some (.int k ((zs.take len).getD i 0)) := by
      intro i hi
      have := hcell i (by omega)
      simp only [Addr.add] at this
      have e : (zs.take len).getD i 0 = zs.getD i 0 := by simp [List.getD_eq_getElem?_getD, hi]
      rw [e]
      split at this
      · rename_i e0; subst e0; simpa using this
      · simpa using this
    refine ⟨b, off, rfl, ?_, hcell'⟩
    have := hcell' 0 hpos
    simp only [World.cell?] at this
    split at this
    · rename_i c _ _ hh
      exact (Array.getElem?_eq_some_iff.1 hh).1
    · cases this
end

/-- Numbers that came in stand within their bounds. -/
theorem nums_range {zs : List Int} {len j : Nat} (hl : zs.length = len) (hw : ∀ n ∈ zs, (Lit.int .i64 n).wf = true) (hj : j < len) : -9223372036854775808 ≤ zs.getD j 0 ∧ zs.getD j 0 < 9223372036854775808 := by
  have hm : zs.getD j 0 ∈ zs := by
    rw [List.getD_eq_getElem?_getD, List.getElem?_eq_getElem (by omega), Option.getD_some]
    exact List.getElem_mem _
  have r0 := hw _ hm
  simp only [Lit.wf, Bool.and_eq_true, decide_eq_true_eq] at r0
  have m1 : IntKind.i64.min = -9223372036854775808 := by decide
  have m2 : IntKind.i64.max = 9223372036854775807 := by decide
  omega

end Go.Proofs.YtpckpgdkfimapaaDoor
