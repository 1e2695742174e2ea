/- Asks of the law that came in, opened. Nothing is claimed of a program's calls here. -/
import Derived.Test.YtpckpgdkfimapaaDoorOpen
import Derived.Test.YtpckpgdkfimapaaDoorSkipTog
namespace Go.Proofs.YtpckpgdkfimapaaDoor
open Go Go.ChangeShapes Go.WideShapes Go.ChangeAt Go.RowKit
set_option linter.unusedVariables false

/-- Asks that can be read. -/
def AskIn (w : World) (p : Option Addr) (n : Nat) (f : Nat → SAsk) : Prop :=
  0 < n → ∃ g off, p = some ⟨g, off, none⟩ ∧ ∀ i, i < n → w.cell? ⟨g, off + i * 5, none⟩ = some (.int .i64 (f i).wk) ∧ w.cell? ⟨g, off + i * 5 + 1, none⟩ = some (.int .i64 (f i).kind) ∧ w.cell? ⟨g, off + i * 5 + 2, none⟩ = some (.string (f i).key) ∧ w.cell? ⟨g, off + i * 5 + 3, none⟩ = some (.int .i64 (f i).ref) ∧ w.cell? ⟨g, off + i * 5 + 4, none⟩ = some (.int .i64 (f i).height) ∧
    (-9223372036854775808 ≤ (f i).wk ∧ (f i).wk < 9223372036854775808) ∧ (-9223372036854775808 ≤ (f i).kind ∧ (f i).kind < 9223372036854775808)
theorem AskIn.kept {w w' : World} {p : Option Addr} {n : Nat} {f : Nat → SAsk} (h : AskIn w p n f) (k : Kept [] w w') : AskIn w' p n f := by
  intro h0
  obtain ⟨g, off, e, hc⟩ := h h0
  exact ⟨g, off, e, fun i hi => ⟨k.cell (hc i hi).1 (by simp), k.cell (hc i hi).2.1 (by simp), k.cell (hc i hi).2.2.1 (by simp), k.cell (hc i hi).2.2.2.1 (by simp), k.cell (hc i hi).2.2.2.2.1 (by simp), (hc i hi).2.2.2.2.2⟩⟩

section
variable {H : Type} {enc : TypeId × Value → H}

noncomputable def askFields (t : TypeId) : Array Field := match Tryd.prog.underlying t with | some (.struct fs) => fs | _ => #[]
theorem rk_ask : Tryd.prog.underlying 37 = some (.struct (askFields 37)) := by kernel_rfl
theorem rk_askC : Tryd.prog.cellsOf 37 = 5 := by kernel_rfl
theorem rk_askF : ((askFields 37).map fun f : Field => (f.type, f.offset)) = #[(3, 0), (3, 1), (9, 2), (3, 3), (3, 4)] := by kernel_rfl
theorem rk_askI : Tryd.prog.cellsOf 3 = 1 := by kernel_rfl
theorem rk_askS : Tryd.prog.cellsOf 9 = 1 := by kernel_rfl

set_option maxRecDepth 100000 in
theorem ask_cells {W : World} {n : Nat} {cs : List Value} {x : DataW H × List MemPlace} (h : DataW.trod enc Tryd.prog W 0 (fun _ => true) true n 37 cs = some x) :
    ∃ a : SAsk, cs = [.int .i64 a.wk, .int .i64 a.kind, .string a.key, .int .i64 a.ref, .int .i64 a.height] ∧ (-9223372036854775808 ≤ a.wk ∧ a.wk < 9223372036854775808) ∧ (-9223372036854775808 ≤ a.kind ∧ a.kind < 9223372036854775808) := by
  obtain ⟨xs, m, _, _, hlen, hxs, hf⟩ := DataW.trod_struct rk_ask h
  rw [rk_askC] at hlen
  have hF := rk_askF
  generalize (askFields 37) = fs at *
  have hsz : fs.size = 5 := by have := congrArg Array.size hF; simpa using this
  match cs, hlen with
  | [c0, c1, c2, c3, c4], _ =>
    have at_ : ∀ (i : Nat) (p : TypeId × Nat), (#[(3, 0), (3, 1), (9, 2), (3, 3), (3, 4)] : Array (TypeId × Nat))[i]? = some p → ∃ y, DataW.trod enc Tryd.prog W 0 (fun _ => true) true m p.1 (([c0, c1, c2, c3, c4].drop p.2).take (Tryd.prog.cellsOf p.1)) = some y := by
      intro i p hp
      rw [← hF, Array.getElem?_map] at hp
      cases hfi : fs[i]? with
      | none => rw [hfi] at hp; cases hp
      | some f =>
        rw [hfi] at hp
        simp only [Option.map_some, Option.some.injEq] at hp
        subst hp
        have hi : i < fs.size := (Array.getElem?_eq_some_iff.1 hfi).1
        refine ⟨xs[i]'(by omega), ?_⟩
        rw [hf i f hfi]
        exact List.getElem?_eq_getElem (by omega)
    obtain ⟨y0, h0⟩ := at_ 0 (3, 0) rfl
    obtain ⟨y1, h1⟩ := at_ 1 (3, 1) rfl
    obtain ⟨y2, h2⟩ := at_ 2 (9, 2) rfl
    obtain ⟨y3, h3⟩ := at_ 3 (3, 3) rfl
    obtain ⟨y4, h4⟩ := at_ 4 (3, 4) rfl
    simp only [rk_askI, rk_askS] at h0 h1 h2 h3 h4
    obtain ⟨z0, e0, _, r0⟩ := DataW.trod_int (k := .i64) Tryd.underlying3 h0
    obtain ⟨z1, e1, _, r1⟩ := DataW.trod_int (k := .i64) Tryd.underlying3 h1
    obtain ⟨z2, e2, _⟩ := DataW.trod_string Tryd.underlying9 h2
    obtain ⟨z3, e3, _⟩ := DataW.trod_int (k := .i64) Tryd.underlying3 h3
    obtain ⟨z4, e4, _⟩ := DataW.trod_int (k := .i64) Tryd.underlying3 h4
    simp at e0 e1 e2 e3 e4
    subst e0 e1 e2 e3 e4
    refine ⟨⟨z0, z1, z2, z3, z4⟩, rfl, ?_⟩
    simp only [Lit.wf, Bool.and_eq_true, decide_eq_true_eq] at r0 r1
    have m1 : IntKind.i64.min = -9223372036854775808 := by decide
    have m2 : IntKind.i64.max = 9223372036854775807 := by decide
    show (-9223372036854775808 ≤ z0 ∧ z0 < 9223372036854775808) ∧ (-9223372036854775808 ≤ z1 ∧ z1 < 9223372036854775808)
    omega

set_option maxRecDepth 100000 in
/-- A slice of asks that came in. -/
theorem asks_in {t : TypeId} {W : World} {r : Reach} {b0 : Nat} {v : Value} {d : DataW H} {ps : List MemPlace} (ht : Tryd.prog.underlying t = some (.slice 37))
    (hval : Value.okWide Tryd.prog W r b0 t v) (h : DataW.Trod enc Tryd.prog W 0 (fun _ => true) true t v d ps) :
    ∃ p len cap, ∃ f : Nat → SAsk, v = .slice p len cap ∧ len ≤ cap ∧ cap ≤ maxLen ∧ ((d = .nil ∧ len = 0) ∨ ∃ elems rest, d = .slice elems rest ∧ elems.length = len) ∧ AskIn W p len f := by
  obtain ⟨p, len, cap, rfl, hl, hm, hd, hp⟩ := rows_in ht rk_askC (by omega) hval h
  by_cases hpos : 0 < len
  · obtain ⟨b, off, rfl, hb, hi⟩ := hp hpos
    have hex : ∀ i, ∃ a : SAsk, i < len → W.cell? ⟨b, off + i * 5, none⟩ = some (.int .i64 a.wk) ∧ W.cell? ⟨b, off + i * 5 + 1, none⟩ = some (.int .i64 a.kind) ∧ W.cell? ⟨b, off + i * 5 + 2, none⟩ = some (.string a.key) ∧ W.cell? ⟨b, off + i * 5 + 3, none⟩ = some (.int .i64 a.ref) ∧ W.cell? ⟨b, off + i * 5 + 4, none⟩ = some (.int .i64 a.height) ∧ (-9223372036854775808 ≤ a.wk ∧ a.wk < 9223372036854775808) ∧ (-9223372036854775808 ≤ a.kind ∧ a.kind < 9223372036854775808) := by
      intro i
      by_cases hil : i < len
      · obtain ⟨cs, n, x, hlen, hc, htr⟩ := hi i hil
        obtain ⟨a, rfl, h1, h2⟩ := ask_cells htr
        exact ⟨a, fun _ => ⟨hc 0 (by omega), hc 1 (by omega), hc 2 (by omega), hc 3 (by omega), hc 4 (by omega), h1, h2⟩⟩
      · exact ⟨⟨0, 0, ⟨#[]⟩, 0, 0⟩, fun h => absurd h hil⟩
    obtain ⟨f, hf⟩ := Classical.axiomOfChoice hex
    exact ⟨_, len, cap, f, rfl, hl, hm, hd, fun _ => ⟨b, off, rfl, fun i hi => hf i hi⟩⟩
  · exact ⟨p, len, cap, fun _ => ⟨0, 0, ⟨#[]⟩, 0, 0⟩, rfl, hl, hm, hd, fun h => absurd h hpos⟩
end
end Go.Proofs.YtpckpgdkfimapaaDoor
