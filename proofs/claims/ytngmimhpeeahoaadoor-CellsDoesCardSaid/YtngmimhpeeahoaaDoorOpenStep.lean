/- Steps of the law that came in, opened to their numbers. Nothing is claimed of a program's calls here. -/
import Derived.Test.YtngmimhpeeahoaaDoorOpenOp
namespace Go.Proofs.YtngmimhpeeahoaaDoor
open Go Go.ChangeShapes Go.WideShapes Go.ChangeAt Go.RowKit
set_option linter.unusedVariables false
section
variable {H : Type} {enc : TypeId × Value → H}

theorem rk_step : Tryd.prog.underlying 54 = some (.struct (structFields 54)) := by kernel_rfl
theorem rk_stepC : Tryd.prog.cellsOf 54 = 5 := by kernel_rfl
theorem rk_stepF : ((structFields 54).map fun f : Field => (f.type, f.offset)) = #[(3, 0), (45, 1)] := by kernel_rfl

theorem step_cells {W : World} {n : Nat} {cs : List Value} {x : DataW H × List MemPlace} (h : DataW.trod enc Tryd.prog W 0 (fun _ => true) true n 54 cs = some x) :
    ∃ m k c u v, cs = [.int .i64 m, .int .i64 k, .int .i64 c, .int .u64 u, .int .u64 v] ∧ (Lit.int .i64 c).wf = true := by
  obtain ⟨xs, m, _, _, hlen, hxs, hf⟩ := DataW.trod_struct rk_step h
  rw [rk_stepC] at hlen
  have hF := rk_stepF
  generalize (structFields 54) = fs at *
  have hsz : fs.size = 2 := by have := congrArg Array.size hF; simpa using this
  match cs, hlen with
  | [c0, c1, c2, c3, c4], _ =>
    have at_ : ∀ (i : Nat) (p : TypeId × Nat), (#[(3, 0), (45, 1)] : Array (TypeId × Nat))[i]? = some p → ∃ y, DataW.trod enc Tryd.prog W 0 (fun _ => true) true m p.1 (([c0, c1, c2, c3, c4].drop p.2).take (Tryd.prog.cellsOf p.1)) = some y := by
      intro i p hp
      rw [← hF, Array.getElem?_map] at hp
      cases hfi : fs[i]? with
      | none => rw [hfi] at hp; cases hp
      | some f =>
        rw [hfi] at hp
        simp only [Option.map_some, Option.some.injEq] at hp
        subst hp
        have hi : i < fs.size := (Array.getElem?_eq_some_iff.1 hfi).1
        refine ⟨xs[i]'(by omega), ?_⟩
        rw [hf i f hfi]
        exact List.getElem?_eq_getElem (by omega)
    obtain ⟨y0, h0⟩ := at_ 0 (3, 0) rfl
    obtain ⟨y1, h1⟩ := at_ 1 (45, 1) rfl
    simp only [rk_cellsInt, rk_opC] at h0 h1
    obtain ⟨k, e0, _, w0⟩ := DataW.trod_int Tryd.underlying3 h0
    obtain ⟨a, b, c, d, e1, _, w1, _, _⟩ := op_cells h1
    simp at e0 e1
    subst e0
    obtain ⟨rfl, rfl, rfl, rfl⟩ := e1
    exact ⟨k, a, b, c, d, rfl, w1⟩

theorem step_range {a : Int} (h : (Lit.int .i64 a).wf = true) : -9223372036854775808 ≤ a ∧ a < 9223372036854775808 := by
  simp only [Lit.wf, Bool.and_eq_true, decide_eq_true_eq] at h
  have e1 : IntKind.i64.min = -9223372036854775808 := by decide
  have e2 : IntKind.i64.max = 9223372036854775807 := by decide
  omega

/-- A slice of steps that came in. -/
theorem steps_in {t : TypeId} {W : World} {r : Reach} {b0 : Nat} {v : Value} {d : DataW H} {ps : List MemPlace} (ht : Tryd.prog.underlying t = some (.slice 54))
    (hval : Value.okWide Tryd.prog W r b0 t v) (h : DataW.Trod enc Tryd.prog W 0 (fun _ => true) true t v d ps) :
    ∃ p len cap, ∃ M K C A B : Nat → Int, v = .slice p len cap ∧ len ≤ cap ∧ cap ≤ maxLen ∧ ((d = .nil ∧ len = 0) ∨ ∃ elems rest, d = .slice elems rest ∧ elems.length = len) ∧
      (∀ i, i < len → (Lit.int .i64 (C i)).wf = true) ∧
      (0 < len → ∃ b off, p = some ⟨b, off, none⟩ ∧ b < W.heap.size ∧ ∀ i, i < len → W.cell? ⟨b, off + i * 5, none⟩ = some (.int .i64 (M i)) ∧ W.cell? ⟨b, off + i * 5 + 1, none⟩ = some (.int .i64 (K i)) ∧ W.cell? ⟨b, off + i * 5 + 2, none⟩ = some (.int .i64 (C i)) ∧ W.cell? ⟨b, off + i * 5 + 3, none⟩ = some (.int .u64 (A i)) ∧ W.cell? ⟨b, off + i * 5 + 4, none⟩ = some (.int .u64 (B i))) := by
  obtain ⟨p, len, cap, rfl, hl, hm, hd, hp⟩ := rows_in ht rk_stepC (by omega) hval h
  by_cases hpos : 0 < len
  · obtain ⟨b, off, rfl, hb, hi⟩ := hp hpos
    have hex : ∀ i, ∃ q : Int × Int × Int × Int × Int, i < len → (Lit.int .i64 q.2.2.1).wf = true ∧
        W.cell? ⟨b, off + i * 5, none⟩ = some (.int .i64 q.1) ∧ W.cell? ⟨b, off + i * 5 + 1, none⟩ = some (.int .i64 q.2.1) ∧ W.cell? ⟨b, off + i * 5 + 2, none⟩ = some (.int .i64 q.2.2.1) ∧ W.cell? ⟨b, off + i * 5 + 3, none⟩ = some (.int .u64 q.2.2.2.1) ∧ W.cell? ⟨b, off + i * 5 + 4, none⟩ = some (.int .u64 q.2.2.2.2) := by
      intro i
      by_cases hil : i < len
      · obtain ⟨cs, n, x, hlen, hc, htr⟩ := hi i hil
        obtain ⟨m, k, c, u, v, rfl, w1⟩ := step_cells htr
        exact ⟨(m, k, c, u, v), fun _ => ⟨w1, hc 0 (by omega), hc 1 (by omega), hc 2 (by omega), hc 3 (by omega), hc 4 (by omega)⟩⟩
      · exact ⟨(0, 0, 0, 0, 0), fun h => absurd h hil⟩
    obtain ⟨f, hf⟩ := Classical.axiomOfChoice hex
    exact ⟨_, len, cap, fun i => (f i).1, fun i => (f i).2.1, fun i => (f i).2.2.1, fun i => (f i).2.2.2.1, fun i => (f i).2.2.2.2, rfl, hl, hm, hd, fun i h => (hf i h).1, fun _ => ⟨b, off, rfl, hb, fun i h => (hf i h).2⟩⟩
  · exact ⟨p, len, cap, fun _ => 0, fun _ => 0, fun _ => 0, fun _ => 0, fun _ => 0, rfl, hl, hm, hd, fun i h => by omega, fun h => absurd h hpos⟩
end
end Go.Proofs.YtngmimhpeeahoaaDoor
