/- What a statement's row wants of any walk that leaves all that was there as it was. Nothing is claimed of a program here. -/
import Derived.Test.YtpckpgdkfimapaaDoorCards
import Derived.Test.YtpckpgdkfimapaaDoorTie
import Derived.Test.YtpckpgdkfimapaaDoorCellsAlloc
import Derived.WalkKit
import Derived.ProofKit
import Derived.OpenShut
import Derived.ChangeOld
import Derived.SizedLaws
import Derived.Deep.DeepHandedRow
import Derived.Lib.LaidTab
namespace Go.Proofs.YtpckpgdkfimapaaDoor
open Go Go.ChangeShapes Go.WideShapes Go.ChangeAt Go.RowKit
set_option linter.unusedVariables false

theorem rk_own : ownKnob Tryd.prog.godebug = none := by kernel_rfl
theorem rk_laidOut : laidOutB Tryd.prog = true := by kernel_rfl
theorem rk_gTab : Tryd.prog.globalNamed "math/bits.deBruijn64tab" = some 0 := by kernel_rfl
theorem rk_gType : (Tryd.prog.globals[0]?).map (·.type) = some 98 := by kernel_rfl
theorem rk_cells64 : Tryd.prog.cellsOf 98 = 64 := by kernel_rfl
theorem rk_cells8 : Tryd.prog.cellsOf 5 = 1 := by kernel_rfl
theorem rk_cellsU64 : Tryd.prog.cellsOf 65 = 1 := by kernel_rfl
theorem rk_cellsInt : Tryd.prog.cellsOf 3 = 1 := by kernel_rfl
theorem rk_bytesU64 : Tryd.prog.bytesOf 65 = 8 := by kernel_rfl
theorem rk_bytesInt : Tryd.prog.bytesOf 3 = 8 := by kernel_rfl

def rk_laid : List (String × DataW Unit) := [("math/bits.deBruijn64tab", Rows.laid_math_bits_deBruijn64tab)]

theorem rk_table {W : World} (h : laidMetH Tryd.prog rk_laid W) : TabAt W := by
  have ht := Lib.tabIs_of_head (k := .u8) (zs := Lib.deBruijn64tab.map (fun n : Nat => (n : Int))) (rest := []) rk_gTab rk_gType Tryd.underlying98 Tryd.underlying5 rk_cells8 rk_cells64 h
  intro j hj
  have := Lib.TabIs.cell ht rk_gTab j (by simpa using hj)
  rw [this]
  simp [List.getD_eq_getElem?_getD]
  have hj' : j < Lib.deBruijn64tab.length := hj
  simp [hj']

section
variable {H : Type} {enc : TypeId × Value → H}

theorem below_trodAll {W W' : World} (hb : Below W.heap.size W W') : ∀ {ts : List TypeId} {vs : List Value} {ds : List (DataW H)} {ps : List MemPlace}, (∀ t ∈ ts, Tryd.prog.readableRec t = true ∧ t < Tryd.prog.types.size) → DataW.TrodAll enc Tryd.prog W 0 (fun _ => true) true ts vs ds ps →
    (∀ x ∈ ps, x.block < W.heap.size) → DataW.TrodAll enc Tryd.prog W' 0 (fun b => decide (b < W.heap.size)) true ts vs ds ps
  | [], vs, ds, ps, _, h, _ => by
    obtain ⟨rfl, rfl, rfl⟩ := trodAll_nil h
    exact trodAll_mk0
  | t :: ts, vs, ds, ps, hr, h, hlt => by
    obtain ⟨v, vs', d, ds', p, q, rfl, rfl, rfl, h1, h2⟩ := trodAll_cons h
    exact trodAll_cons_mk (Below.trod rk_laidOut (hr t (by simp)).1 (hr t (by simp)).2 h1 hb fun x hx => hlt x (by simp [hx])) (below_trodAll hb (fun t' ht' => hr t' (by simp [ht'])) h2 fun x hx => hlt x (by simp [hx]))

/-- A walk that answers true and keeps all that was there proves the row's contract. -/
theorem law_post {f : Func} {s : ChangeSpec} {W W' : World} {args : Array Value} {ds gs : List (DataW H)} {before : List MemPlace}
    (hv : s.vars = []) (hrt : f.resultTypes = #[4]) (hp : ∀ t ∈ f.params.toList, Tryd.prog.readableRec t = true ∧ t < Tryd.prog.types.size)
    (hW : DataW.Whole enc Tryd.prog f.params.toList s.vars false W args.toList ds gs before) (hres : (s.fn H (ds ++ gs)).results = [.lit (.bool true)]) (hargs : (s.fn H (ds ++ gs)).args = ds) (hvars : (s.fn H (ds ++ gs)).vars = [])
    (hk : Kept [] W W') : s.post enc Tryd.prog f false true false false W args (.bool true) W' := by
  have hb : Below W.heap.size W W' := hk.below (Nat.le_refl _) (by simp)
  have hW' := hW
  have hlt := hW.lt
  obtain ⟨p, q, hA, hV, rfl, hfz, hnd⟩ := hW
  refine ⟨ds, gs, p ++ q, [], p, q, hW', ?_, ?_, ?_, hb.frame _, fun h => by cases h⟩
  · rw [hrt, hres]
    exact trodAll_mk1 (shut_bool Tryd.underlying4 _)
  · rw [hargs]
    exact below_trodAll hb hp hA fun x hx => hlt x (by simp [hx])
  · rw [hvars, hv]
    rw [hv] at hV
    obtain ⟨rfl, rfl⟩ := trodVars_none hV
    exact hV

set_option maxRecDepth 100000 in
/-- A slice of integers that came in. -/
theorem ints_in {t e : TypeId} {k : IntKind} {W : World} {r : Reach} {b0 : Nat} {v : Value} {d : DataW H} {ps : List MemPlace} (ht : Tryd.prog.underlying t = some (.slice e)) (he : Tryd.prog.underlying e = some (.int k)) (hc : Tryd.prog.cellsOf e = 1)
    (hval : Value.okWide Tryd.prog W r b0 t v) (h : DataW.Trod enc Tryd.prog W 0 (fun _ => true) true t v d ps) :
    ∃ p len cap zs, v = .slice p len cap ∧ zs.length = len ∧ len ≤ cap ∧ cap ≤ maxLen ∧ (∀ n ∈ zs, (Lit.int k n).wf = true) ∧ ((d = .nil ∧ len = 0) ∨ ∃ rest, d = .slice (lits k zs) rest) ∧
      (0 < len → ∃ b off, p = some ⟨b, off, none⟩ ∧ b < W.heap.size ∧ ∀ i, i < len → W.cell? ⟨b, off + i, none⟩ = some (.int k (zs.getD i 0))) := by
  obtain ⟨a0, len, cap, rfl⟩ := okWide_slice ht hval
  obtain ⟨fuel, hf⟩ := h
  rcases open_ints ht he hc hf with ⟨hcs, hx⟩ | ⟨a, len', cap', zs, hcs, _, hl, hm, hz, hx, hcell, hwz⟩
  · simp [Value.cells] at hcs
    obtain ⟨rfl, rfl, rfl⟩ := hcs
    simp only [Prod.mk.injEq] at hx
    exact ⟨_, _, _, [], rfl, rfl, Nat.le_refl _, Nat.zero_le _, by simp, .inl ⟨hx.1, rfl⟩, by omega⟩
  · simp [Value.cells] at hcs
    obtain ⟨rfl, rfl, rfl⟩ := hcs
    simp only [Prod.mk.injEq] at hx
    simp only [if_true] at hz
    have hlen : (zs.take len).length = len := by simp; omega
    refine ⟨_, _, _, zs.take len, rfl, hlen, hl, hm, fun n hn => hwz n (List.mem_of_mem_take hn), .inr ⟨_, hx.1⟩, fun hpos => ?_⟩
    have h0 : W.cell? a = some (.int k (zs.getD 0 0)) := by have := hcell 0 (by omega); simpa [Addr.add] using this
    have hsp := World.cell?_spot h0
    obtain ⟨b, off, spot⟩ := a
    obtain rfl : spot = none := hsp
    have hcell' : ∀ i, i < len → W.cell? ⟨b, off + i, none⟩ = some (.int k ((zs.take len).getD i 0)) := by
      intro i hi
      have := hcell i (by omega)
      simp only [Addr.add] at this
      have e : (zs.take len).getD i 0 = zs.getD i 0 := by simp [List.getD_eq_getElem?_getD, hi]
      rw [e]
      split at this
      · rename_i e0; subst e0; simpa using this
      · simpa using this
    refine ⟨b, off, rfl, ?_, hcell'⟩
    have := hcell' 0 hpos
    simp only [World.cell?] at this
    split at this
    · rename_i c _ _ hh
      exact (Array.getElem?_eq_some_iff.1 hh).1
    · cases this
end

/-- A world for the witness: the settled one, the table as its initialiser lays it. -/
noncomputable def rk_world (os : Os) : World :=
  { World.holding Tryd.prog os ⟨#[], #[], []⟩ with heap := (World.holding Tryd.prog os ⟨#[], #[], []⟩).heap.modify 0 fun
      | .cells _ t frozen => .cells (Lib.deBruijn64tab.map fun n : Nat => Value.int .u8 n).toArray t frozen
      | o => o }
end Go.Proofs.YtpckpgdkfimapaaDoor
