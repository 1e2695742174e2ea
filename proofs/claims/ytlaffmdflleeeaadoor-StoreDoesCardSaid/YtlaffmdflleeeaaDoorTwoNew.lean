/- A fresh reference beside a fresh store; steps that came in, as they are read. -/
import Derived.Test.YtlaffmdflleeeaaDoorLoads11
import Derived.Test.YtlaffmdflleeeaaDoorStoreShown
namespace Go.Proofs.YtlaffmdflleeeaaDoor
open Go Go.RowKit
set_option linter.unusedVariables false

variable {o : List Nat} {w0 w : World} {b rb : Nat} {A A' : ASt} {rs : Int}

/-- A fresh reference beside a fresh store. -/
theorem two_new {ab n : Nat} (h : Has o w0 w (.store b (newSt ab n 0))) : Has o w0 (w.alloc (.cells #[.slice none 0 0, .slice none 0 0, .slice none 0 0, .int .i64 n, .int .i64 0] 59)) (.two b w.heap.size (newSt ab n 0) (newSt ab n 0) 0) := by
  have h1 := h.beside (Has.madeBlk #[.slice none 0 0, .slice none 0 0, .slice none 0 0, .int .i64 n, .int .i64 0] 59 (rfF (.slice none 0 0) (.slice none 0 0) (.slice none 0 0) n 0) 5 rfl (fun i hi => match i, hi with | 0, _ => rfl | 1, _ => rfl | 2, _ => rfl | 3, _ => rfl | 4, _ => rfl))
  have h2 := h1.beside ((Has.rowsNil _ 100 2 (rnF (newSt ab n 0))).beside ((Has.rowsNil _ 109 5 (rvF (newSt ab n 0))).beside (Has.rowsNil _ 111 2 (rtF (newSt ab n 0)))))
  have h3 := h2.assoc
  obtain ⟨o9, h9, _, _, b9⟩ := h3.right
  refine b9 _ _ ?_
  refine Has.rfShutAs (x := ⟨.slice none 0 0, .slice none 0 0, .slice none 0 0⟩) (fr := (n : Int)) h9 ?_
  unfold ASt.free
  rw [newSt_used]
  show (n : Int) = (n : Int) - 0
  omega

def stepAt (w : World) (b off i : Nat) (s : StV) : Prop :=
  w.cell? ⟨b, off + i * 7, none⟩ = some (.int .i64 s.k) ∧ w.cell? ⟨b, off + i * 7 + 1, none⟩ = some (.int .i64 s.a) ∧ w.cell? ⟨b, off + i * 7 + 2, none⟩ = some (.int .i64 s.b) ∧ w.cell? ⟨b, off + i * 7 + 3, none⟩ = some (.int .i64 s.c) ∧ w.cell? ⟨b, off + i * 7 + 4, none⟩ = some (.int .u64 s.v) ∧ w.cell? ⟨b, off + i * 7 + 5, none⟩ = some (.int .u64 s.w) ∧ w.cell? ⟨b, off + i * 7 + 6, none⟩ = some (.string s.t)
theorem stepAt.kept {w' : World} {g off i : Nat} {s : StV} (h : stepAt w g off i s) (k : Kept [] w w') : stepAt w' g off i s :=
  ⟨k.cell h.1 (by simp), k.cell h.2.1 (by simp), k.cell h.2.2.1 (by simp), k.cell h.2.2.2.1 (by simp), k.cell h.2.2.2.2.1 (by simp), k.cell h.2.2.2.2.2.1 (by simp), k.cell h.2.2.2.2.2.2 (by simp)⟩

theorem two_fields (h : Has o w0 w (.two b rb A A' rs)) : ∃ p c, w.cell? ⟨rb, 0, none⟩ = some (.slice p A'.nN c) := by
  obtain ⟨_, h1, _⟩ := Has.right (A := .store b A) (B := .rstore rb A' rs) h
  obtain ⟨x, h1⟩ := h1.rfOpen
  obtain ⟨⟨p, c, e⟩, _⟩ := RfP.slices h1
  have := (RfP.fields h1).1
  rw [e] at this
  exact ⟨p, c, this⟩

end Go.Proofs.YtlaffmdflleeeaaDoor
