/- Rows of a call's own: what stands in them, and stores. Plain lemmas: nothing is claimed of a program here. -/
import Derived.Test.YtbankfdgoolbdaaAppend
namespace Go.Proofs.Ytbankfdgoolbdaa
open Go Go.RowKit
set_option linter.unusedVariables false

/-- A store into a row of the call's own. -/
theorem row_put {w : World} {e : TypeId} {g n cap : Nat} {xs : List Value} (h : w.ownsRow 0 e 1 (.slice (some ⟨g, 0, none⟩) n cap) n xs) (k : Nat) (u : Value) (hk : k < n) :
    (w.setCell ⟨g, k, none⟩ u).ownsRow 0 e 1 (.slice (some ⟨g, 0, none⟩) n cap) n (xs.set k u) := by
  obtain ⟨hl, h1 | ⟨g', cap', cur, hv', h0, hg, h2, h3, h4, h5⟩⟩ := h
  · cases h1.1
  · cases hv'
    refine ⟨by simpa using hl, .inr ⟨g, cap, cur.setIfInBounds k u, rfl, Nat.zero_le _, ?_, h2, h3, by simpa using h4, ?_⟩⟩
    · simp [World.setCell, Array.getElem?_modify, hg]
    · simp only [Array.toList_setIfInBounds]
      rw [← h5, Nat.mul_one, List.take_set]

/-- A store elsewhere. -/
theorem row_other {w : World} {e : TypeId} {n : Nat} {v : Value} {xs : List Value} (h : w.ownsRow 0 e 1 v n xs) {a : Addr} (u : Value) (hne : v.ownBlock ≠ some a.block) : (w.setCell a u).ownsRow 0 e 1 v n xs := by
  obtain ⟨hl, h1 | ⟨g', cap', cur, rfl, h0, hg, h2, h3, h4, h5⟩⟩ := h
  · exact ⟨hl, .inl h1⟩
  · refine ⟨hl, .inr ⟨g', cap', cur, rfl, h0, ?_, h2, h3, h4, h5⟩⟩
    rw [Below.heap_setCell w a u g' (fun e => hne (by simp [Value.ownBlock, e]))]
    exact hg

/-- A row, spelt out: empty, or a slice with its cells. -/
theorem row_val {w : World} {e : TypeId} {v : Value} {n : Nat} {xs : List Value} (h : w.ownsRow 0 e 1 v n xs) :
    (v = .slice none 0 0 ∧ n = 0) ∨ ∃ g cap, v = .slice (some ⟨g, 0, none⟩) n cap ∧ n ≤ cap ∧ cap ≤ maxLen ∧ g < w.heap.size ∧ (∀ i, w.frozen? ⟨g, i, none⟩ = false) ∧ ∀ i u, xs[i]? = some u → w.cell? ⟨g, i, none⟩ = some u := by
  rcases h.2 with ⟨h1, h0⟩ | ⟨g, cap, cur, rfl, _, hg, hnc, hcm, hcs, htake⟩
  · exact .inl ⟨h1, h0⟩
  · refine .inr ⟨g, cap, rfl, hnc, hcm, (Array.getElem?_eq_some_iff.1 hg).1, fun i => by simp [World.frozen?, hg], fun i u hu => ?_⟩
    have := h.cells (g := g) rfl i u hu
    simp only [Addr.add] at this
    split at this
    · rename_i e0; subst e0; simpa using this
    · simpa using this

end Go.Proofs.Ytbankfdgoolbdaa
