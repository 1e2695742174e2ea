/- Operations on cells that came in, opened to their numbers. Nothing is claimed of a program's calls here. -/
import Derived.Test.YtfipoadgfebibaaDoorOpen
namespace Go.Proofs.YtfipoadgfebibaaDoor
open Go Go.ChangeShapes Go.WideShapes Go.ChangeAt Go.RowKit
set_option linter.unusedVariables false
section
variable {H : Type} {enc : TypeId × Value → H}

/-- A struct's fields. -/
noncomputable def structFields (t : TypeId) : Array Field := match Tryd.prog.underlying t with | some (.struct fs) => fs | _ => #[]
theorem rk_op : Tryd.prog.underlying 38 = some (.struct (structFields 38)) := by kernel_rfl
theorem rk_opC : Tryd.prog.cellsOf 38 = 4 := by kernel_rfl
theorem rk_opF : ((structFields 38).map fun f : Field => (f.type, f.offset)) = #[(3, 0), (3, 1), (32, 2), (32, 3)] := by kernel_rfl

theorem op_cells {W : World} {n : Nat} {cs : List Value} {x : DataW H × List MemPlace} (h : DataW.trod enc Tryd.prog W 0 (fun _ => true) true n 38 cs = some x) :
    ∃ k c u v, cs = [.int .i64 k, .int .i64 c, .int .u64 u, .int .u64 v] ∧ (Lit.int .i64 k).wf = true ∧ (Lit.int .i64 c).wf = true ∧ (Lit.int .u64 u).wf = true ∧ (Lit.int .u64 v).wf = true := by
  obtain ⟨xs, m, _, _, hlen, hxs, hf⟩ := DataW.trod_struct rk_op h
  rw [rk_opC] at hlen
  have hF := rk_opF
  generalize (structFields 38) = fs at *
  have hsz : fs.size = 4 := by have := congrArg Array.size hF; simpa using this
  match cs, hlen with
  | [c0, c1, c2, c3], _ =>
    have at_ : ∀ (i : Nat) (p : TypeId × Nat), (#[(3, 0), (3, 1), (32, 2), (32, 3)] : Array (TypeId × Nat))[i]? = some p → ∃ y, DataW.trod enc Tryd.prog W 0 (fun _ => true) true m p.1 (([c0, c1, c2, c3].drop p.2).take (Tryd.prog.cellsOf p.1)) = some y := by
      intro i p hp
      rw [← hF, Array.getElem?_map] at hp
      cases hfi : fs[i]? with
      | none => rw [hfi] at hp; cases hp
      | some f =>
        rw [hfi] at hp
        simp only [Option.map_some, Option.some.injEq] at hp
        subst hp
        have hi : i < fs.size := (Array.getElem?_eq_some_iff.1 hfi).1
        refine ⟨xs[i]'(by omega), ?_⟩
        rw [hf i f hfi]
        exact List.getElem?_eq_getElem (by omega)
    obtain ⟨y0, h0⟩ := at_ 0 (3, 0) rfl
    obtain ⟨y1, h1⟩ := at_ 1 (3, 1) rfl
    obtain ⟨y2, h2⟩ := at_ 2 (32, 2) rfl
    obtain ⟨y3, h3⟩ := at_ 3 (32, 3) rfl
    simp only [rk_cellsInt, rk_cellsU64] at h0 h1 h2 h3
    obtain ⟨k, e0, _, w0⟩ := DataW.trod_int Tryd.underlying3 h0
    obtain ⟨c, e1, _, w1⟩ := DataW.trod_int Tryd.underlying3 h1
    obtain ⟨u, e2, _, w2⟩ := DataW.trod_int Tryd.underlying32 h2
    obtain ⟨v, e3, _, w3⟩ := DataW.trod_int Tryd.underlying32 h3
    simp at e0 e1 e2 e3
    subst e0; subst e1; subst e2; subst e3
    exact ⟨k, c, u, v, rfl, w0, w1, w2, w3⟩

/-- A slice of operations that came in. -/
theorem ops_in {t : TypeId} {W : World} {r : Reach} {b0 : Nat} {v : Value} {d : DataW H} {ps : List MemPlace} (ht : Tryd.prog.underlying t = some (.slice 38))
    (hval : Value.okWide Tryd.prog W r b0 t v) (h : DataW.Trod enc Tryd.prog W 0 (fun _ => true) true t v d ps) :
    ∃ p len cap, ∃ K C A B : Nat → Int, v = .slice p len cap ∧ len ≤ cap ∧ cap ≤ maxLen ∧ ((d = .nil ∧ len = 0) ∨ ∃ elems rest, d = .slice elems rest ∧ elems.length = len) ∧
      (∀ i, i < len → (Lit.int .i64 (K i)).wf = true ∧ (Lit.int .i64 (C i)).wf = true ∧ (Lit.int .u64 (A i)).wf = true ∧ (Lit.int .u64 (B i)).wf = true) ∧
      (0 < len → ∃ b off, p = some ⟨b, off, none⟩ ∧ b < W.heap.size ∧ ∀ i, i < len → W.cell? ⟨b, off + i * 4, none⟩ = some (.int .i64 (K i)) ∧ W.cell? ⟨b, off + i * 4 + 1, none⟩ = some (.int .i64 (C i)) ∧ W.cell? ⟨b, off + i * 4 + 2, none⟩ = some (.int .u64 (A i)) ∧ W.cell? ⟨b, off + i * 4 + 3, none⟩ = some (.int .u64 (B i))) := by
  obtain ⟨p, len, cap, rfl, hl, hm, hd, hp⟩ := rows_in ht rk_opC (by omega) hval h
  by_cases hpos : 0 < len
  · obtain ⟨b, off, rfl, hb, hi⟩ := hp hpos
    have hex : ∀ i, ∃ q : Int × Int × Int × Int, i < len → ((Lit.int .i64 q.1).wf = true ∧ (Lit.int .i64 q.2.1).wf = true ∧ (Lit.int .u64 q.2.2.1).wf = true ∧ (Lit.int .u64 q.2.2.2).wf = true) ∧
        W.cell? ⟨b, off + i * 4, none⟩ = some (.int .i64 q.1) ∧ W.cell? ⟨b, off + i * 4 + 1, none⟩ = some (.int .i64 q.2.1) ∧ W.cell? ⟨b, off + i * 4 + 2, none⟩ = some (.int .u64 q.2.2.1) ∧ W.cell? ⟨b, off + i * 4 + 3, none⟩ = some (.int .u64 q.2.2.2) := by
      intro i
      by_cases hil : i < len
      · obtain ⟨cs, n, x, hlen, hc, htr⟩ := hi i hil
        obtain ⟨k, c, u, v, rfl, w0, w1, w2, w3⟩ := op_cells htr
        exact ⟨(k, c, u, v), fun _ => ⟨⟨w0, w1, w2, w3⟩, hc 0 (by omega), hc 1 (by omega), hc 2 (by omega), hc 3 (by omega)⟩⟩
      · exact ⟨(0, 0, 0, 0), fun h => absurd h hil⟩
    obtain ⟨f, hf⟩ := Classical.axiomOfChoice hex
    exact ⟨_, len, cap, fun i => (f i).1, fun i => (f i).2.1, fun i => (f i).2.2.1, fun i => (f i).2.2.2, rfl, hl, hm, hd, fun i h => (hf i h).1, fun _ => ⟨b, off, rfl, hb, fun i h => (hf i h).2⟩⟩
  · exact ⟨p, len, cap, fun _ => 0, fun _ => 0, fun _ => 0, fun _ => 0, rfl, hl, hm, hd, fun i h => by omega, fun h => absurd h hpos⟩
end
end Go.Proofs.YtfipoadgfebibaaDoor
