/- Steps of the law that came in, opened to their cells. Nothing is claimed of a program's calls here. -/
import Derived.Test.YtlaffmdflleeeaaDoorOpen
import Derived.Test.YtlaffmdflleeeaaDoorStrsIn
import Derived.Test.YtlaffmdflleeeaaDoorSteps11
namespace Go.Proofs.YtlaffmdflleeeaaDoor
open Go Go.ChangeShapes Go.WideShapes Go.ChangeAt Go.RowKit
set_option linter.unusedVariables false
section
variable {H : Type} {enc : TypeId × Value → H}

noncomputable def structFields (t : TypeId) : Array Field := match Tryd.prog.underlying t with | some (.struct fs) => fs | _ => #[]

theorem rk_step : Tryd.prog.underlying 62 = some (.struct (structFields 62)) := by kernel_rfl
theorem rk_stepC : Tryd.prog.cellsOf 62 = 7 := by kernel_rfl
theorem rk_stepF : ((structFields 62).map fun f : Field => (f.type, f.offset)) = #[(3, 0), (3, 1), (3, 2), (3, 3), (33, 4), (33, 5), (9, 6)] := by kernel_rfl
theorem rk_cellsStr : Tryd.prog.cellsOf 9 = 1 := by kernel_rfl

theorem u64_range {a : Int} (h : (Lit.int .u64 a).wf = true) : 0 ≤ a ∧ a < 18446744073709551616 := by
  simp only [Lit.wf, Bool.and_eq_true, decide_eq_true_eq] at h
  have e1 : IntKind.u64.min = 0 := by decide
  have e2 : IntKind.u64.max = 18446744073709551615 := by decide
  omega

set_option maxRecDepth 100000 in
theorem step_cells {W : World} {n : Nat} {cs : List Value} {x : DataW H × List MemPlace} (h : DataW.trod enc Tryd.prog W 0 (fun _ => true) true n 62 cs = some x) :
    ∃ s : StV, cs = [.int .i64 s.k, .int .i64 s.a, .int .i64 s.b, .int .i64 s.c, .int .u64 s.v, .int .u64 s.w, .string s.t] ∧ s.ok := by
  obtain ⟨xs, m, _, _, hlen, hxs, hf⟩ := DataW.trod_struct rk_step h
  rw [rk_stepC] at hlen
  have hF := rk_stepF
  generalize (structFields 62) = fs at *
  have hsz : fs.size = 7 := by have := congrArg Array.size hF; simpa using this
  match cs, hlen with
  | [c0, c1, c2, c3, c4, c5, c6], _ =>
    have at_ : ∀ (i : Nat) (p : TypeId × Nat), (#[(3, 0), (3, 1), (3, 2), (3, 3), (33, 4), (33, 5), (9, 6)] : Array (TypeId × Nat))[i]? = some p → ∃ y, DataW.trod enc Tryd.prog W 0 (fun _ => true) true m p.1 (([c0, c1, c2, c3, c4, c5, c6].drop p.2).take (Tryd.prog.cellsOf p.1)) = some y := by
      intro i p hp
      rw [← hF, Array.getElem?_map] at hp
      cases hfi : fs[i]? with
      | none => rw [hfi] at hp; cases hp
      | some f =>
        rw [hfi] at hp
        simp only [Option.map_some, Option.some.injEq] at hp
        subst hp
        have hi : i < fs.size := (Array.getElem?_eq_some_iff.1 hfi).1
        refine ⟨xs[i]'(by omega), ?_⟩
        rw [hf i f hfi]
        exact List.getElem?_eq_getElem (by omega)
    obtain ⟨y0, h0⟩ := at_ 0 (3, 0) rfl
    obtain ⟨y1, h1⟩ := at_ 1 (3, 1) rfl
    obtain ⟨y2, h2⟩ := at_ 2 (3, 2) rfl
    obtain ⟨y3, h3⟩ := at_ 3 (3, 3) rfl
    obtain ⟨y4, h4⟩ := at_ 4 (33, 4) rfl
    obtain ⟨y5, h5⟩ := at_ 5 (33, 5) rfl
    obtain ⟨y6, h6⟩ := at_ 6 (9, 6) rfl
    simp only [rk_cellsInt, rk_cellsU64, rk_cellsStr] at h0 h1 h2 h3 h4 h5 h6
    obtain ⟨k0, e0, _, w0⟩ := DataW.trod_int Tryd.underlying3 h0
    obtain ⟨k1, e1, _, w1⟩ := DataW.trod_int Tryd.underlying3 h1
    obtain ⟨k2, e2, _, w2⟩ := DataW.trod_int Tryd.underlying3 h2
    obtain ⟨k3, e3, _, w3⟩ := DataW.trod_int Tryd.underlying3 h3
    obtain ⟨k4, e4, _, w4⟩ := DataW.trod_int Tryd.underlying33 h4
    obtain ⟨k5, e5, _, w5⟩ := DataW.trod_int Tryd.underlying33 h5
    obtain ⟨k6, e6, _⟩ := DataW.trod_string Tryd.underlying9 h6
    simp at e0 e1 e2 e3 e4 e5 e6
    subst e0 e1 e2 e3 e4 e5 e6
    exact ⟨⟨k0, k1, k2, k3, k4, k5, k6⟩, rfl, ⟨(u64_range w4).1, (u64_range w4).2, (u64_range w5).1, (u64_range w5).2⟩⟩

set_option maxRecDepth 100000 in
/-- A slice of steps that came in. -/
theorem steps_in {t : TypeId} {W : World} {r : Reach} {b0 : Nat} {v : Value} {d : DataW H} {ps : List MemPlace} (ht : Tryd.prog.underlying t = some (.slice 62))
    (hval : Value.okWide Tryd.prog W r b0 t v) (h : DataW.Trod enc Tryd.prog W 0 (fun _ => true) true t v d ps) :
    ∃ p len cap, ∃ f : Nat → StV, v = .slice p len cap ∧ len ≤ cap ∧ cap ≤ maxLen ∧ ((d = .nil ∧ len = 0) ∨ ∃ elems rest, d = .slice elems rest ∧ elems.length = len) ∧
      (∀ i, i < len → (f i).ok) ∧
      (0 < len → ∃ b off, p = some ⟨b, off, none⟩ ∧ b < W.heap.size ∧ ∀ i, i < len → W.cell? ⟨b, off + i * 7, none⟩ = some (.int .i64 (f i).k) ∧ W.cell? ⟨b, off + i * 7 + 1, none⟩ = some (.int .i64 (f i).a) ∧ W.cell? ⟨b, off + i * 7 + 2, none⟩ = some (.int .i64 (f i).b) ∧ W.cell? ⟨b, off + i * 7 + 3, none⟩ = some (.int .i64 (f i).c) ∧ W.cell? ⟨b, off + i * 7 + 4, none⟩ = some (.int .u64 (f i).v) ∧ W.cell? ⟨b, off + i * 7 + 5, none⟩ = some (.int .u64 (f i).w) ∧ W.cell? ⟨b, off + i * 7 + 6, none⟩ = some (.string (f i).t)) := by
  obtain ⟨p, len, cap, rfl, hl, hm, hd, hp⟩ := rows_in ht rk_stepC (by omega) hval h
  by_cases hpos : 0 < len
  · obtain ⟨b, off, rfl, hb, hi⟩ := hp hpos
    have hex : ∀ i, ∃ s : StV, i < len → s.ok ∧
        W.cell? ⟨b, off + i * 7, none⟩ = some (.int .i64 s.k) ∧ W.cell? ⟨b, off + i * 7 + 1, none⟩ = some (.int .i64 s.a) ∧ W.cell? ⟨b, off + i * 7 + 2, none⟩ = some (.int .i64 s.b) ∧ W.cell? ⟨b, off + i * 7 + 3, none⟩ = some (.int .i64 s.c) ∧ W.cell? ⟨b, off + i * 7 + 4, none⟩ = some (.int .u64 s.v) ∧ W.cell? ⟨b, off + i * 7 + 5, none⟩ = some (.int .u64 s.w) ∧ W.cell? ⟨b, off + i * 7 + 6, none⟩ = some (.string s.t) := by
      intro i
      by_cases hil : i < len
      · obtain ⟨cs, n, x, hlen, hc, htr⟩ := hi i hil
        obtain ⟨s, rfl, hs⟩ := step_cells htr
        exact ⟨s, fun _ => ⟨hs, hc 0 (by omega), hc 1 (by omega), hc 2 (by omega), hc 3 (by omega), hc 4 (by omega), hc 5 (by omega), hc 6 (by omega)⟩⟩
      · exact ⟨⟨0, 0, 0, 0, 0, 0, default⟩, fun h => absurd h hil⟩
    obtain ⟨f, hf⟩ := Classical.axiomOfChoice hex
    exact ⟨_, len, cap, f, rfl, hl, hm, hd, fun i h => (hf i h).1, fun _ => ⟨b, off, rfl, hb, fun i h => (hf i h).2⟩⟩
  · exact ⟨p, len, cap, fun _ => ⟨0, 0, 0, 0, 0, 0, default⟩, rfl, hl, hm, hd, fun i h => by omega, fun h => absurd h hpos⟩
end
end Go.Proofs.YtlaffmdflleeeaaDoor
