/- An arena of cells in memory: what its block and its row of words hold. Nothing is claimed of a program here. -/
import Derived.Test.YtpckpgdkfimapaaDoorBase
namespace Go.Proofs.YtpckpgdkfimapaaDoor
open Go Go.RowKit
set_option linter.unusedVariables false

/-- The cells of an arena's struct. -/
def arF (size : Int) (hv : Value) (ws : Nat → Nat) (low used steps : Int) : Nat → Value := fun i =>
  if i = 0 then .int .i64 size else if i = 1 then hv else if i < 1026 then .int .u64 (ws (i - 2)) else if i = 1026 then .int .i64 low else if i = 1027 then .int .i64 used else .int .i64 steps

/-- An arena lies at block b: hs: what its cells have (those that were ever taken), ws: a bit a cell. -/
structure ArRep (w : World) (b : Nat) (hv : Value) (size : Int) (hs : List Int) (ws : Nat → Nat) (low used steps : Int) : Prop where
  blk : Blk w b 1029 68 (arF size hv ws low used steps)
  row : w.ownsRow 0 65 1 hv hs.length (hs.map (Value.int .u64))
  ne : hv.ownBlock ≠ some b
  word : ∀ i, ws i < 18446744073709551616
  few : hs.length ≤ 65536

/-- A cell is taken. -/
def takenAt (hs : List Int) (ws : Nat → Nat) (c : Int) : Bool := decide (0 ≤ c) && decide (c < hs.length) && (ws (c.toNat / 64)).testBit (c.toNat % 64)

theorem ArRep.c0 {w b hv size hs ws low used steps} (h : ArRep w b hv size hs ws low used steps) : w.cell? ⟨b, 0, none⟩ = some (.int .i64 size) := h.blk.cell (by omega)
theorem ArRep.c1 {w b hv size hs ws low used steps} (h : ArRep w b hv size hs ws low used steps) : w.cell? ⟨b, 1, none⟩ = some hv := h.blk.cell (by omega)
theorem ArRep.c2 {w b hv size hs ws low used steps} (h : ArRep w b hv size hs ws low used steps) {i : Nat} (hi : i < 1024) : w.cell? ⟨b, 2 + i, none⟩ = some (.int .u64 (ws i)) := by
  have := h.blk.cell (i := 2 + i) (by omega)
  rw [this]; unfold arF
  rw [if_neg (by omega), if_neg (by omega), if_pos (by omega)]
  rw [show 2 + i - 2 = i from by omega]
theorem ArRep.c3 {w b hv size hs ws low used steps} (h : ArRep w b hv size hs ws low used steps) : w.cell? ⟨b, 1026, none⟩ = some (.int .i64 low) := h.blk.cell (by omega)
theorem ArRep.c4 {w b hv size hs ws low used steps} (h : ArRep w b hv size hs ws low used steps) : w.cell? ⟨b, 1027, none⟩ = some (.int .i64 used) := h.blk.cell (by omega)
theorem ArRep.c5 {w b hv size hs ws low used steps} (h : ArRep w b hv size hs ws low used steps) : w.cell? ⟨b, 1028, none⟩ = some (.int .i64 steps) := h.blk.cell (by omega)

/-- The row's value, spelt out. -/
theorem ArRep.val {w b hv size hs ws low used steps} (h : ArRep w b hv size hs ws low used steps) : (hv = .slice none 0 0 ∧ hs = []) ∨ ∃ g cap, hv = .slice (some ⟨g, 0, none⟩) hs.length cap ∧ hs.length ≤ cap ∧ cap ≤ maxLen ∧ g ≠ b ∧ g < w.heap.size ∧ ∀ i, i < hs.length → w.cell? ⟨g, i, none⟩ = some (.int .u64 (hs.getD i 0)) := by
  obtain ⟨hl, h1 | ⟨g, cap, cur, rfl, hb, hg, h2, h3, h4, h5⟩⟩ := h.row
  · exact .inl ⟨h1.1, by simpa using h1.2⟩
  · refine .inr ⟨g, cap, rfl, h2, h3, ?_, (Array.getElem?_eq_some_iff.1 hg).1, ?_⟩
    · intro e; exact h.ne (by simp [Value.ownBlock, e])
    · intro i hi
      simp only [World.cell?, hg]
      have : (cur.toList.take (hs.length * 1))[i]? = (hs.map (Value.int .u64))[i]? := by rw [h5]
      rw [List.getElem?_take_of_lt (by omega)] at this
      simp only [Array.getElem?_toList] at this
      show (if (none : Option _).isSome = true then none else cur[i]?) = _
      simp only [Option.isSome_none, Bool.false_eq_true, if_false, this, List.getElem?_map, List.getElem?_eq_getElem hi, Option.map_some, List.getD_eq_getElem?_getD, Option.getD_some]

theorem ArRep.rowFree {w b g n cap size hs ws low used steps} (h : ArRep w b (.slice (some ⟨g, 0, none⟩) n cap) size hs ws low used steps) (i : Nat) : w.frozen? ⟨g, i, none⟩ = false := by
  obtain ⟨_, h1 | ⟨g', cap', cur, hv', _, hg, _⟩⟩ := h.row
  · cases h1.1
  · cases hv'
    simp [World.frozen?, hg]

end Go.Proofs.YtpckpgdkfimapaaDoor
