/- A row of rows that grow: what is read, and an append to one of them. Plain lemmas: nothing is claimed of a program here. -/
import Derived.Test.YtfipoadgfebibaaDoorRefParts
namespace Go.Proofs.YtfipoadgfebibaaDoor
open Go Go.RowKit
set_option linter.unusedVariables false

theorem outs_cells {w wr : World} {A : Part} {go n i : Nat} {ov : Nat → Value} {outs : Nat → List Int} (h : Has [] w wr (A.sep (Part.outs (.slice (some ⟨go, 0, none⟩) n n) n ov outs))) (hi : i < n) :
    ∃ oq ocap, ov i = .slice oq (outs i).length ocap ∧ wr.cell? ⟨go, i, none⟩ = some (.slice oq (outs i).length ocap) ∧ wr.ownsRow 0 32 1 (ov i) (outs i).length ((outs i).map (Value.int .u64)) := by
  obtain ⟨o1, h1, _, _, _⟩ := h.right
  obtain ⟨o2, h2, _, _, _⟩ := h1.left
  obtain ⟨o3, h3, _, _, _⟩ := h1.right
  obtain ⟨o4, ⟨fp, ⟨hr, _⟩, _⟩, _⟩ := h3.pick hi
  have c := (h2.rowCell i (ov i) (by rw [List.getElem?_map, List.getElem?_range hi]; rfl)).1
  rcases row_val hr with ⟨e, h0⟩ | ⟨g, cap, e, _⟩
  · exact ⟨none, 0, by rw [h0]; exact e, by rw [c, e, h0], hr⟩
  · exact ⟨_, cap, e, by rw [c, e], hr⟩

theorem outs_push {w w4 w5 : World} {A : Part} {go n i : Nat} {ov : Nat → Value} {outs : Nat → List Int} {v' : Value} {a1 : Int} (ob : Obj) (h : Has [] w w4 (A.sep (Part.outs (.slice (some ⟨go, 0, none⟩) n n) n ov outs))) (hi : i < n)
    (happ : Appended (w4.alloc ob) w5 32 1 (ov i) v' ((outs i).length + 1) ((outs i).map (Value.int .u64) ++ [.int .u64 a1])) :
    (w5.cell? ⟨go, i, none⟩ = some (ov i) ∧ w5.frozen? ⟨go, i, none⟩ = false) ∧ Has [] w (w5.setCell ⟨go, i, none⟩ v') (A.sep (Part.outs (.slice (some ⟨go, 0, none⟩) n n) n (updF ov i v') (updF outs i (outs i ++ [a1])))) := by
  obtain ⟨o1, h1, _, _, b1⟩ := h.right
  obtain ⟨o3, h3, _, _, b3⟩ := h1.right
  obtain ⟨o4, h4, _, _, b4⟩ := h3.pick hi
  have h5 := Has.appendRow ob h4 happ
  have h6 := b4 _ _ h5
  have h7 := b1 _ _ (b3 _ (.all n fun j => .row 32 1 (updF ov i v' j) (updF outs i (outs i ++ [a1]) j).length ((updF outs i (outs i ++ [a1]) j).map (Value.int .u64))) (h6.congr fun j hj => by
    unfold updP updF
    by_cases e : j = i
    · subst e; simp
    · simp [e]))
  obtain ⟨o8, h8, _, _, b8⟩ := h7.right
  obtain ⟨o9, h9, _, _, b9⟩ := h8.left
  refine ⟨h9.rowCell i (ov i) (by rw [List.getElem?_map, List.getElem?_range hi]; rfl), ?_⟩
  have h10 := h9.setRow i v' hi
  rw [list_set_range n _ _ i (updF ov i v') (fun d hd => by unfold updF; by_cases e : d = i <;> simp [e])] at h10
  exact b8 _ _ (b9 _ _ h10)

/-- The reference's Do, beside what came out. -/
theorem outs_do {w wr : World} {r : Nat} {S : Ar} {B : Part} (h : Has [] w wr ((Part.ref r S).sep B)) (k c x y : Int) :
    Calls Tryd.prog 24 #[.pointer (some ⟨r, 0, none⟩), .agg #[.int .i64 k, .int .i64 c, .int .u64 x, .int .u64 y]] wr fun e w' => e = .returned (.tuple #[.int .u64 (doS S k c x y).1, .int .i64 (doS S k c x y).2.1]) ∧ Has [] w w' ((Part.ref r (doS S k c x y).2.2).sep B) := by
  obtain ⟨o5, ⟨fp, hRA, hfp, _⟩, _, _, b5⟩ := h.left
  refine (ref_do hRA k c x y).mono ?_
  rintro e w' ⟨rfl, ⟨fp', hRA', hn'⟩, k'⟩
  exact ⟨rfl, b5 _ _ (Has.step hfp (Kept.refl _ _) ⟨fp', hRA', hn', k'⟩)⟩
end Go.Proofs.YtfipoadgfebibaaDoor
