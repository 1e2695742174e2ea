/- Programs that came in, opened: a slice of slices of operations. Nothing is claimed of a program's calls here. -/
import Derived.Test.YtfipoadgfebibaaDoorOpenOp
import Derived.Test.YtfipoadgfebibaaDoorProgs
namespace Go.Proofs.YtfipoadgfebibaaDoor
open Go Go.ChangeShapes Go.WideShapes Go.ChangeAt Go.RowKit
set_option linter.unusedVariables false
section
variable {H : Type} {enc : TypeId × Value → H}

/-- A slice inside a slice that came in: its elements' cells. -/
theorem rows_trod {t e : TypeId} {C : Nat} {W : World} {fuel : Nat} {vcs : List Value} {y : DataW H × List MemPlace} (ht : Tryd.prog.underlying t = some (.slice e)) (hC : Tryd.prog.cellsOf e = C) (hC0 : 0 < C)
    (hf : DataW.trod enc Tryd.prog W 0 (fun _ => true) true fuel t vcs = some y) :
    ∃ p len cap, vcs = [.slice p len cap] ∧ len ≤ cap ∧ cap ≤ maxLen ∧
      (0 < len → ∃ b off, p = some ⟨b, off, none⟩ ∧ b < W.heap.size ∧ ∀ i, i < len → ∃ cs n x, cs.length = C ∧ (∀ j, j < C → W.cell? ⟨b, off + i * C + j, none⟩ = cs[j]?) ∧ DataW.trod enc Tryd.prog W 0 (fun _ => true) true n e cs = some x) := by
  rcases Go.Deep.open_slice ht hf with ⟨hcs, hx⟩ | ⟨a, len, cap, m, n, D, Pl, hcs, hb, hl, hm, hmm, hx, hi⟩
  · exact ⟨_, _, _, hcs, Nat.le_refl _, Nat.zero_le _, by omega⟩
  · refine ⟨_, _, _, hcs, hl, hm, fun hpos => ?_⟩
    have hsp0 : True := trivial
    simp only [if_true] at hmm
    obtain ⟨cs0, h0, _⟩ := hi 0 (by omega)
    rw [hC] at h0
    obtain ⟨_, hl0, hc0⟩ := World.cells?_some h0
    have h00 := hc0 0 hC0
    have hsome : ∃ u, W.cell? a = some u := by
      refine ⟨cs0[0]'(by omega), ?_⟩
      have e : (a.add (0 * C)).add 0 = a := by simp [Addr.add]
      rw [e] at h00
      rw [h00]
      exact List.getElem?_eq_getElem (by omega)
    obtain ⟨u, hu⟩ := hsome
    have hsp := World.cell?_spot hu
    obtain ⟨b, off, spot⟩ := a
    obtain rfl : spot = none := hsp
    refine ⟨b, off, rfl, ?_, fun i hil => ?_⟩
    · simp only [World.cell?] at hu
      split at hu
      · rename_i c _ _ hh
        exact (Array.getElem?_eq_some_iff.1 hh).1
      · cases hu
    · obtain ⟨cs, h1, h2⟩ := hi i (by omega)
      rw [hC] at h1
      obtain ⟨_, hl1, hc1⟩ := World.cells?_some h1
      refine ⟨cs, n, _, hl1, fun j hj => ?_, h2⟩
      have := hc1 j hj
      rwa [addr_add, addr_add] at this

theorem i64_in {a : Int} (h : (Lit.int .i64 a).wf = true) : -9223372036854775808 ≤ a ∧ a < 9223372036854775808 := by
  simp only [Lit.wf, Bool.and_eq_true, decide_eq_true_eq] at h
  have e1 : IntKind.i64.min = -9223372036854775808 := by decide
  have e2 : IntKind.i64.max = 9223372036854775807 := by decide
  omega

theorem rk_opsC : Tryd.prog.cellsOf 35 = 1 := by kernel_rfl

/-- A program that came in. -/
theorem ops_trod {W : World} {fuel : Nat} {vcs : List Value} {y : DataW H × List MemPlace} (h : DataW.trod enc Tryd.prog W 0 (fun _ => true) true fuel 35 vcs = some y) :
    ∃ v n f, vcs = [v] ∧ OpsAt W v n f := by
  obtain ⟨p, len, cap, rfl, hl, hm, hp⟩ := rows_trod Tryd.underlying35 rk_opC (by omega) h
  have h9 : len ≤ 9223372036854775807 := by have : maxLen ≤ 9223372036854775807 := by decide
                                            omega
  by_cases hpos : 0 < len
  · obtain ⟨b, off, rfl, hb, hi⟩ := hp hpos
    have hex : ∀ i, ∃ q : OpV, i < len → (-9223372036854775808 ≤ q.c ∧ q.c < 9223372036854775808) ∧
        W.cell? ⟨b, off + i * 4, none⟩ = some (.int .i64 q.k) ∧ W.cell? ⟨b, off + i * 4 + 1, none⟩ = some (.int .i64 q.c) ∧ W.cell? ⟨b, off + i * 4 + 2, none⟩ = some (.int .u64 q.x) ∧ W.cell? ⟨b, off + i * 4 + 3, none⟩ = some (.int .u64 q.y) := by
      intro i
      by_cases hil : i < len
      · obtain ⟨cs, n, x, hlen, hc, htr⟩ := hi i hil
        obtain ⟨k, c, u, v, rfl, w0, w1, w2, w3⟩ := op_cells htr
        exact ⟨⟨k, c, u, v⟩, fun _ => ⟨i64_in w1, hc 0 (by omega), hc 1 (by omega), hc 2 (by omega), hc 3 (by omega)⟩⟩
      · exact ⟨⟨0, 0, 0, 0⟩, fun h => absurd h hil⟩
    obtain ⟨f, hf⟩ := Classical.axiomOfChoice hex
    exact ⟨_, len, f, rfl, _, _, rfl, h9, fun i h => (hf i h).1, fun _ => ⟨b, off, rfl, hb, fun i h => (hf i h).2⟩⟩
  · exact ⟨_, len, fun _ => ⟨0, 0, 0, 0⟩, rfl, _, _, rfl, h9, fun i hi => by omega, fun h => absurd h hpos⟩

/-- Programs that came in. -/
theorem progs_in {t : TypeId} {W : World} {r : Reach} {b0 : Nat} {v : Value} {d : DataW H} {ps : List MemPlace} (ht : Tryd.prog.underlying t = some (.slice 35))
    (hval : Value.okWide Tryd.prog W r b0 t v) (h : DataW.Trod enc Tryd.prog W 0 (fun _ => true) true t v d ps) :
    ∃ n L vs P, ProgsAt W v n L vs P := by
  obtain ⟨p, len, cap, rfl, hl, hm, hd, hp⟩ := rows_in ht rk_opsC (by omega) hval h
  have h9 : len ≤ 9223372036854775807 := by have : maxLen ≤ 9223372036854775807 := by decide
                                            omega
  by_cases hpos : 0 < len
  · obtain ⟨b, off, rfl, hb, hi⟩ := hp hpos
    have hex : ∀ i, ∃ q : Value × Nat × (Nat → OpV), i < len → W.cell? ⟨b, off + i, none⟩ = some q.1 ∧ OpsAt W q.1 q.2.1 q.2.2 := by
      intro i
      by_cases hil : i < len
      · obtain ⟨cs, n, x, hlen, hc, htr⟩ := hi i hil
        obtain ⟨u, m, f, rfl, ho⟩ := ops_trod htr
        exact ⟨(u, m, f), fun _ => ⟨by have := hc 0 (by omega); simpa using this, ho⟩⟩
      · exact ⟨(default, 0, fun _ => ⟨0, 0, 0, 0⟩), fun h => absurd h hil⟩
    obtain ⟨f, hf⟩ := Classical.axiomOfChoice hex
    exact ⟨len, fun i => (f i).2.1, fun i => (f i).1, fun i => (f i).2.2, _, _, rfl, h9, fun i h => (hf i h).2, fun _ => ⟨b, off, rfl, hb, fun i h => (hf i h).1⟩⟩
  · exact ⟨len, fun _ => 0, fun _ => .slice none 0 0, fun _ _ => ⟨0, 0, 0, 0⟩, _, _, rfl, h9, fun i hi => by omega, fun h => absurd h hpos⟩

/-- Picks that came in. -/
theorem picks_at {W : World} {p : Option Addr} {len cap : Nat} {zs : List Int} (h9 : len ≤ 140737488351232) (hc : 0 < len → ∃ b off, p = some ⟨b, off, none⟩ ∧ b < W.heap.size ∧ ∀ i, i < len → W.cell? ⟨b, off + i, none⟩ = some (.int .i64 (zs.getD i 0))) :
    PicksAt W (.slice p len cap) len (fun i => zs.getD i 0) := ⟨_, _, rfl, by omega, hc⟩

end
end Go.Proofs.YtfipoadgfebibaaDoor
