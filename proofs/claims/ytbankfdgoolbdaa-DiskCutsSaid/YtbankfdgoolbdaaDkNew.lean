/- A new disk; how many operations there were; the power goes at an operation. -/
import Derived.Test.YtbankfdgoolbdaaDkName
namespace Go.Proofs.Ytbankfdgoolbdaa
open Go Go.RowKit Go.Lib
set_option linter.unusedVariables false

theorem dk_empty (w : World) (lv : Value) (hlv : lv = .slice none 0 0) (fp bp : Nat → Part) : Has [] w w ((Part.row 68 1 lv ([] : List Value).length []).sep ((Part.all 0 fp).sep (Part.all 0 bp))) := by
  subst hlv
  have h1 : Has [] w w (.row 68 1 (.slice none 0 0) 0 []) := ⟨[], ⟨World.ownsRow_nil _ _ _ _, by simp [rowsOf, Value.ownBlock]⟩, by simp, Kept.refl _ _⟩
  exact h1.beside ((Has.nothing fp).beside (Has.nothing bp))

def newLay (mb ob : Nat) : DLay := ⟨mb, ob, .slice none 0 0, fun _ => 0, fun _ => .slice none 0 0, fun _ => 0, fun _ => 0⟩

theorem new_walk (w : World) : Calls Try.prog 11 #[] w fun e w' => ∃ db, e = .returned (ptr db) ∧ w.heap.size ≤ db ∧ Has [] w w' (Dk db ADk.new) := by
  have hmm := @run_makeMap Try.prog
  go_enter Try.func11, Try.ntmps11
  go_wp2
  go_ret
  refine ⟨w.heap.size + 1 + 1, rfl, by omega, dk_shut ADk.new_ok (newLay w.heap.size (w.heap.size + 1)) ?_⟩
  have hM := Has.madeMap w
  have hO := Has.madeMap (w.alloc (.map #[] 0))
  have hX := dk_empty ((w.alloc (.map #[] 0)).alloc (.map #[] 0)) (.slice none 0 0) rfl (fun i => fileP ((newLay w.heap.size (w.heap.size + 1)).addr i) ((newLay w.heap.size (w.heap.size + 1)).bv i) (ADk.new.file i)) (fun j => boxP (newLay w.heap.size (w.heap.size + 1)).addr ((newLay w.heap.size (w.heap.size + 1)).b1 j) ((newLay w.heap.size (w.heap.size + 1)).b2 j) (ADk.new.log.getD j (.del [])))
  have h1 := hM.beside (hO.beside hX)
  have hS := Has.madeBlk (w := (w.alloc (.map #[] 0)).alloc (.map #[] 0)) #[.map (some w.heap.size), .map (some (w.heap.size + 1)), .slice none 0 0, .int .i64 0, .int .i64 (-1), .bool false] 63
    (dkCells (newLay w.heap.size (w.heap.size + 1)) ADk.new) 6 rfl (by
      intro i hi
      match i with
      | 0 | 1 | 2 | 3 | 4 | 5 => rfl
      | i + 6 => omega)
  have h2 := (h1.beside hS).swap
  have e1 : (w.alloc (.map #[] 0)).heap.size = w.heap.size + 1 := by simp
  have e2 : ((w.alloc (.map #[] 0)).alloc (.map #[] 0)).heap.size = w.heap.size + 1 + 1 := by simp
  rw [e1, e2] at h2
  exact h2

theorem cutAt_walk {o : List Nat} {w0 w : World} {db : Nat} {a : ADk} (h : Has o w0 w (Dk db a)) (n : Int) : Calls Try.prog 23 #[ptr db, .int .i64 n] w fun e w' => e = .returned (.tuple #[]) ∧ Has o w0 w' (Dk db (a.cutAt n)) := by
  obtain ⟨ha, L, hL⟩ := dk_open h
  obtain ⟨c4, f4⟩ := dkl_cell hL 4 (by omega)
  obtain ⟨c5, f5⟩ := dkl_cell hL 5 (by omega)
  have hP := Lib.hid (dk_shut (a.cutAt_ok ha n) L (dkl_off (dkl_cut hL n) false))
  clear hL h ha
  unfold ptr
  go_enter Try.func23, Try.ntmps23
  go_wp2
  go_end0
  exact ⟨rfl, hP.out⟩

theorem cutAt_nil (w : World) (n : Int) : Calls Try.prog 23 #[.pointer none, .int .i64 n] w fun e w' => e = .returned (.tuple #[]) ∧ Kept [] w w' := by
  go_enter Try.func23, Try.ntmps23
  go_wp2
  go_end0
  exact ⟨rfl, Kept.refl _ _⟩

theorem ops_walk {o : List Nat} {w0 w : World} {db : Nat} {a : ADk} (h : Has o w0 w (Dk db a)) : Calls Try.prog 22 #[ptr db] w fun e w' => e = .returned (.int .i64 a.ops) ∧ Kept [] w w' := by
  obtain ⟨ha, L, hL⟩ := dk_open h
  have c3 : w.cell? ⟨db, 3, none⟩ = some (.int .i64 a.ops) := (dkl_cell hL 3 (by omega)).1
  clear hL h ha
  unfold ptr
  go_enter Try.func22, Try.ntmps22
  go_wp2
  go_ret
  exact ⟨rfl, Kept.refl _ _⟩

theorem ops_nil (w : World) : Calls Try.prog 22 #[.pointer none] w fun e w' => e = .returned (.int .i64 0) ∧ Kept [] w w' := by
  go_enter Try.func22, Try.ntmps22
  go_wp2
  go_ret
  exact ⟨rfl, Kept.refl _ _⟩
end Go.Proofs.Ytbankfdgoolbdaa
