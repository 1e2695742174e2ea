/- Slices of structs that came in, opened to their cells. Nothing is claimed of a program's calls here. -/
import Derived.Test.YtpckpgdkfimapaaDoorRowKit
import Derived.Deep.Slices
namespace Go.Proofs.YtpckpgdkfimapaaDoor
open Go Go.ChangeShapes Go.WideShapes Go.ChangeAt Go.RowKit
set_option linter.unusedVariables false
section
variable {H : Type} {enc : TypeId × Value → H}

theorem addr_add (b off i : Nat) : (⟨b, off, none⟩ : Addr).add i = ⟨b, off + i, none⟩ := by
  simp only [Addr.add]
  split
  · rename_i h; subst h; rfl
  · rfl

set_option maxRecDepth 100000 in
/-- A slice that came in: its elements' cells, each read by its own type. -/
theorem rows_in {t e : TypeId} {C : Nat} {W : World} {r : Reach} {b0 : Nat} {v : Value} {d : DataW H} {ps : List MemPlace} (ht : Tryd.prog.underlying t = some (.slice e)) (hC : Tryd.prog.cellsOf e = C) (hC0 : 0 < C)
    (hval : Value.okWide Tryd.prog W r b0 t v) (h : DataW.Trod enc Tryd.prog W 0 (fun _ => true) true t v d ps) :
    ∃ p len cap, v = .slice p len cap ∧ len ≤ cap ∧ cap ≤ maxLen ∧ ((d = .nil ∧ len = 0) ∨ ∃ elems rest, d = .slice elems rest ∧ elems.length = len) ∧
      (0 < len → ∃ b off, p = some ⟨b, off, none⟩ ∧ b < W.heap.size ∧ ∀ i, i < len → ∃ cs n x, cs.length = C ∧ (∀ j, j < C → W.cell? ⟨b, off + i * C + j, none⟩ = cs[j]?) ∧ DataW.trod enc Tryd.prog W 0 (fun _ => true) true n e cs = some x) := by
  obtain ⟨a0, len, cap, rfl⟩ := okWide_slice ht hval
  obtain ⟨fuel, hf⟩ := h
  rcases Go.Deep.open_slice ht hf with ⟨hcs, hx⟩ | ⟨a, len', cap', m, n, D, Pl, hcs, hb, hl, hm, hmm, hx, hi⟩
  · simp [Value.cells] at hcs
    obtain ⟨rfl, rfl, rfl⟩ := hcs
    simp only [Prod.mk.injEq] at hx
    exact ⟨_, _, _, rfl, Nat.le_refl _, Nat.zero_le _, .inl ⟨hx.1, rfl⟩, by omega⟩
  · simp [Value.cells] at hcs
    obtain ⟨rfl, rfl, rfl⟩ := hcs
    simp only [Prod.mk.injEq] at hx
    refine ⟨_, _, _, rfl, hl, hm, .inr ⟨_, _, hx.1, by simp⟩, fun hpos => ?_⟩
    simp only [if_true] at hmm
    obtain ⟨cs0, h0, _⟩ := hi 0 (by omega)
    rw [hC] at h0
    obtain ⟨_, hl0, hc0⟩ := World.cells?_some h0
    have h00 := hc0 0 hC0
    have hsome : ∃ u, W.cell? a = some u := by
      refine ⟨cs0[0]'(by omega), ?_⟩
      have e : (a.add (0 * C)).add 0 = a := by simp [Addr.add]
      rw [e] at h00
      rw [h00]
      exact List.getElem?_eq_getElem (by omega)
    obtain ⟨u, hu⟩ := hsome
    have hsp := World.cell?_spot hu
    obtain ⟨b, off, spot⟩ := a
    obtain rfl : spot = none := hsp
    refine ⟨b, off, rfl, ?_, fun i hil => ?_⟩
    · simp only [World.cell?] at hu
      split at hu
      · rename_i c _ _ hh
        exact (Array.getElem?_eq_some_iff.1 hh).1
      · cases hu
    · obtain ⟨cs, h1, h2⟩ := hi i (by omega)
      rw [hC] at h1
      obtain ⟨_, hl1, hc1⟩ := World.cells?_some h1
      refine ⟨cs, n, _, hl1, fun j hj => ?_, h2⟩
      have := hc1 j hj
      rwa [addr_add, addr_add] at this

end
end Go.Proofs.YtpckpgdkfimapaaDoor
