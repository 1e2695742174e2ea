/- The walks of cells.New, Used, Steps, and of Alloc where no cell is free. -/
import Derived.Test.YtpckpgdkfimapaaDoorCellsAlloc
namespace Go.Proofs.YtpckpgdkfimapaaDoor
open Go Go.RowKit
set_option linter.unusedVariables false

/-- An arena's struct as it is made. -/
def arList (n : Nat) : List Value := .int .i64 0 :: .slice none 0 0 :: (List.replicate n (Value.int .u64 0) ++ [.int .i64 0, .int .i64 0, .int .i64 0])
def arCells : Array Value := (arList 1024).toArray

theorem arList_length (n : Nat) : (arList n).length = n + 5 := by simp [arList]
theorem arList_get (n i : Nat) (h0 : i ≠ 0) (hi : i < n + 5) : (arList n)[i]? = some (if i = 1 then .slice none 0 0 else if i < n + 2 then .int .u64 0 else .int .i64 0) := by
  obtain ⟨j, rfl⟩ : ∃ j, i = j + 1 := ⟨i - 1, by omega⟩
  unfold arList
  rw [List.getElem?_cons_succ]
  by_cases h1 : j = 0
  · subst h1; simp
  obtain ⟨k, rfl⟩ : ∃ k, j = k + 1 := ⟨j - 1, by omega⟩
  rw [if_neg (by omega), List.getElem?_cons_succ]
  by_cases h2 : k < n
  · rw [if_pos (by omega), List.getElem?_append_left (by simpa using h2)]
    simp [h2]
  · rw [if_neg (by omega), List.getElem?_append_right (by simp; omega)]
    simp only [List.length_replicate]
    have : k - n = 0 ∨ k - n = 1 ∨ k - n = 2 := by omega
    rcases this with h | h | h <;> rw [h] <;> rfl

theorem arCells_zero (w : World) : (zeroValue 68).run Tryd.prog w = .ok (.agg arCells) w := by kernel_rfl
theorem arCells_size : arCells.size = 1029 := by unfold arCells; rw [List.size_toArray, arList_length]
theorem arCells_ne : (arCells = #[]) = False := by
  simp only [eq_iff_iff, iff_false]
  intro h
  have := arCells_size
  rw [h] at this
  simp at this

theorem arCells_get (size : Int) (i : Nat) (hi : i < 1029) : (arCells.setIfInBounds 0 (.int .i64 size))[i]? = some (arF size (.slice none 0 0) (fun _ => 0) 0 0 0 i) := by
  have hs := arCells_size
  by_cases h0 : i = 0
  · subst h0
    rw [Array.getElem?_setIfInBounds_self, if_pos (by omega)]; rfl
  · rw [Array.getElem?_setIfInBounds_ne (by omega)]
    unfold arCells arF
    rw [if_neg h0, List.getElem?_toArray, arList_get 1024 i h0 (by omega)]
    by_cases h1 : i = 1
    · rw [if_pos h1, if_pos h1]
    rw [if_neg h1, if_neg h1]
    by_cases h2 : i < 1026
    · rw [if_pos h2, if_pos h2]; rfl
    rw [if_neg h2, if_neg h2]
    repeat' split
    all_goals rfl

set_option maxHeartbeats 2000000 in
set_option maxRecDepth 100000 in
theorem new_walk (w : World) (size : Int) (h0 : 1 ≤ size) (h1 : size ≤ 65536) :
    Calls Tryd.prog 22 #[.int .i64 size] w fun e w' => e = .returned (.tuple #[.pointer (some ⟨w.heap.size, 0, none⟩), .int .i64 0]) ∧ w' = w.alloc (.cells (arCells.setIfInBounds 0 (.int .i64 size)) 68) := by
  have h2 : decide (size < 1) = false := by simp; omega
  have h3 : decide (size > 65536) = false := by simp; omega
  have hz := arCells_zero
  have hne := arCells_ne
  have hs := arCells_size
  go_enter Tryd.func22, Tryd.ntmps22
  go_wp2
  go_ret2
  exact ⟨rfl, rfl⟩

set_option maxHeartbeats 1000000 in
theorem new_walk_no (w : World) (size : Int) (h : size < 1 ∨ 65536 < size) :
    Calls Tryd.prog 22 #[.int .i64 size] w fun e w' => e = .returned (.tuple #[.pointer none, .int .i64 2]) ∧ w = w' := by
  rcases h with h | h
  · have h2 : decide (size < 1) = true := by simp; omega
    go_enter Tryd.func22, Tryd.ntmps22
    go_wp2
    go_ret2
    exact ⟨rfl, rfl⟩
  · have h2 : decide (size < 1) = false := by simp; omega
    have h3 : decide (size > 65536) = true := by simp; omega
    go_enter Tryd.func22, Tryd.ntmps22
    go_wp2
    go_ret2
    exact ⟨rfl, rfl⟩

set_option maxHeartbeats 1000000 in
theorem alloc_walk_full (w : World) (b : Nat) (size used : Int) (hc0 : w.cell? ⟨b, 0, none⟩ = some (.int .i64 size)) (hc4 : w.cell? ⟨b, 1027, none⟩ = some (.int .i64 used)) (he : (used == size) = true) :
    Calls Tryd.prog 35 #[.pointer (some ⟨b, 0, none⟩)] w fun e w' => e = .returned (.tuple #[.int .i64 0, .int .i64 31]) ∧ ∃ n, w' = w.drewN n := by
  go_enter Tryd.func35, Tryd.ntmps35
  go_wp2
  go_quiet (fail)
  go_wp2
  go_ret2
  exact ⟨rfl, _, rfl⟩

set_option maxHeartbeats 1000000 in
theorem used_walk (w : World) (b : Nat) (used : Int) (hc4 : w.cell? ⟨b, 1027, none⟩ = some (.int .i64 used)) :
    Calls Tryd.prog 13 #[.pointer (some ⟨b, 0, none⟩)] w fun e w' => e = .returned (.int .i64 used) ∧ w = w' := by
  go_enter Tryd.func13, Tryd.ntmps13
  go_wp2
  go_ret
  exact ⟨rfl, rfl⟩

end Go.Proofs.YtpckpgdkfimapaaDoor
