/- As many cells can be taken as are free, each once, and each has nothing of before: true for every size, every list of numbers and every word. Conditions: none beyond the form's own reach. -/
import Derived.Test.YtngmimhpeeahoaaDoorRowKit
import Derived.Test.YtngmimhpeeahoaaDoorLawBack
namespace Go.Proofs.YtngmimhpeeahoaaDoor.cellsBack
open Go Go.ChangeShapes Go.WideShapes Go.ChangeAt Go.RowKit Go.Proofs.YtngmimhpeeahoaaDoor
set_option linter.unusedVariables false

theorem contract (H : Type) (enc : TypeId × Value → H) (W : World) (base : Nat) (args : Array Value) (ds gs : List (DataW H)) (before : List MemPlace)
    (hval : ∀ (j : Nat) t v, Tryd.f5.params[j]? = some t → args[j]? = some v → Value.okWide Tryd.prog W .any base t v)
    (hW : DataW.Whole enc Tryd.prog Tryd.f5.params.toList Rows.cellsBackSpec.vars false W args.toList ds gs before) (hL : laidMetH Tryd.prog rk_laid W)
    (hsz : (DataW.weightsEach Tryd.prog (Tryd.f5.params.toList ++ Rows.cellsBackSpec.plain.varTypes Tryd.prog) (ds ++ gs)).all (· ≤ reachBytes) = true)
    : Calls Tryd.prog 5 args W fun e W' => ∃ v, e = .returned v ∧ Rows.cellsBackSpec.post enc Tryd.prog Tryd.f5 false true false false W args v W' := by
  have hT := rk_table hL
  have hW' := hW
  obtain ⟨p, q, hA0, hV, rfl, hfz, hnd⟩ := hW
  have hA : DataW.TrodAll enc Tryd.prog W 0 (fun _ => true) true Tryd.f5.params.toList args.toList ds p := hA0
  rw [Tryd.params5] at hA hval
  obtain ⟨v0, vs0, d0, ds0, p0, q0, hargs, rfl, rfl, h0, r0⟩ := trodAll_cons hA
  obtain ⟨v1, vs1, d1, ds1, p1, q1, rfl, rfl, rfl, h1, r1⟩ := trodAll_cons r0
  obtain ⟨v2, vs2, d2, ds2, p2, q2, rfl, rfl, rfl, h2, r2⟩ := trodAll_cons r1
  obtain ⟨rfl, rfl, rfl⟩ := trodAll_nil r2
  obtain rfl : args = #[v0, v1, v2] := by cases args; simp_all
  have hV2 := hV
  obtain ⟨rfl, rfl⟩ := trodVars_none hV2
  obtain ⟨a0, rfl, rfl, rfl, w0⟩ := open_int Tryd.underlying3 (hval 0 3 v0 rfl rfl) h0
  obtain ⟨sp1, len1, cap1, zs1, rfl, hl1, hlc1, hcm1, hwf1, hd1, hc1⟩ := ints_in (k := .i64) Tryd.underlying39 Tryd.underlying3 (by kernel_rfl) (hval 1 39 v1 rfl rfl) h1
  have hb1 : len1 ≤ 140737488351232 := by
    rcases hd1 with ⟨rfl, h0⟩ | ⟨rest, rfl⟩
    · omega
    · have := sized_slice (j := 1) hsz (by rw [Tryd.params5]; rfl) rfl Tryd.underlying39
      rw [show Tryd.prog.bytesOf 3 = 8 from by kernel_rfl] at this
      have e : (lits (H := H) .i64 zs1).length = zs1.length := by simp [lits]
      rw [e] at this
      have hr : reachBytes = 140737488351232 := by decide
      omega
  obtain ⟨a2, rfl, rfl, rfl, w2⟩ := open_int Tryd.underlying30 (hval 2 30 v2 rfl rfl) h2
  have fin : ∀ {e : Ending} {W' : World}, e = .returned (.bool true) ∧ Kept [] W W' → ∃ v, e = .returned v ∧ Rows.cellsBackSpec.post enc Tryd.prog Tryd.f5 false true false false W #[.int .i64 a0, .slice sp1 len1 cap1, .int .u64 a2] v W' := by
    rintro e W' ⟨rfl, hk⟩
    exact ⟨_, rfl, law_post rfl (by kernel_rfl) (by rw [Tryd.params5]; decide +kernel) hW' rfl rfl rfl hk⟩
  by_cases hs : a0 < 1 ∨ 300 < a0
  · exact (back_walk_no W hT a0 a2 _ hs).mono fun _ _ => fin
  · obtain ⟨size, rfl⟩ := Int.eq_ofNat_of_zero_le (a := a0) (by omega)
    refine (back_walk W hT size a2 (by omega) (by omega) sp1 len1 cap1 zs1 (by omega) hl1.symm (by rw [← hl1]; exact ints_range hwf1) ?_).mono fun _ _ => fin
    intro hpos
    obtain ⟨b, off, rfl, _, hcell⟩ := hc1 hpos
    exact ⟨b, off, rfl, hcell⟩

theorem laid_met (os : Os) : laidMet Tryd.prog rk_laid ((rk_world os).forCall (fun _ _ => 0) ⟨#[], #[.int .i64 0, .slice none 0 0, .int .u64 0], []⟩).memory :=
  laidMet_of_run' 8 (by kernel_rfl) (by kernel_rfl)
theorem reads (os : Os) {H : Type} (enc : TypeId × Value → H) : ∃ places, DataW.whole enc Tryd.prog ((rk_world os).forCall (fun _ _ => 0) ⟨#[], #[.int .i64 0, .slice none 0 0, .int .u64 0], []⟩).memory Tryd.f5.params.toList Rows.cellsBackSpec.vars false (#[.int .i64 0, .slice none 0 0, .int .u64 0] : Array Value).toList 8 = some ([.lit (.int .i64 0), .nil, .lit (.int .u64 0)], [], places) :=
  ⟨[], by kernel_rfl⟩
set_option maxRecDepth 100000 in
theorem lifted (os : Os) (started : os.Started) (H : Type) (enc : TypeId × Value → H) (F : Stop.Interp) :
    ReturnsInHanded {} Tryd.checked os 5 .any ((OpenSpec.ofChange Rows.cellsBackSpec).preRow enc Tryd.prog Tryd.f5 Rows.cellsBackRow.domain false Rows.cellsBackRow.laid) (((OpenSpec.ofChange Rows.cellsBackSpec).at F).post enc Tryd.prog Tryd.f5 false true false false) := by
  obtain ⟨places, hx⟩ := reads os enc
  refine returnsInHanded_of_row (C := Tryd.checked) (s := OpenSpec.ofChange Rows.cellsBackSpec) rk_own started (by kernel_rfl) Tryd.func5
    (witness_row_at (enc := enc) (C := Tryd.checked) false (rk_world os) #[.int .i64 0, .slice none 0 0, .int .u64 0] rfl (by kernel_rfl) (by kernel_rfl) (by kernel_rfl)
      (OpenSpec.preRow_of_cond 8 hx (by kernel_rfl) (fun k hk => by cases hk) (by kernel_rfl) (laid_met os))) ?_
  intro W base args ds gs before hval hW _ _ hsz hL _ _
  exact contract H enc W base args ds gs before hval hW hL hsz

theorem said : Rows.CellsBackSaid :=
  OpenClaim.holds_of_cond 5 Tryd.f5 rfl rfl rfl rfl rfl rfl rfl ⟨rfl, rfl, rfl, rfl, rfl⟩ rfl rfl rfl rfl rfl (by kernel_rfl) Tryd.func5 (by kernel_rfl)
    (of_decide_eq_true (by kernel_rfl)) (by unfold Func.isWrapper; first | (rw [if_pos (by decide +kernel)]; kernel_rfl) | (rw [if_neg (by decide +kernel)]; exact ⟨rfl, rfl⟩))
    (fun os started H enc _ F => by rw [OpenClaim.pre_eq_preRow]; exact lifted os started H enc F)
theorem plain (f : FuncId) (fn : Func) (hf : Tryd.pinned.checked.prog.funcNamed "varve/varvelaw03.CellsBack" = some f) (hfn : Tryd.pinned.checked.prog.funcs[f]? = some fn) :
    false = Tryd.pinned.checked.prog.looks [] ∧ ∀ (j : Nat) t, fn.params[j]? = some t → Tryd.pinned.checked.prog.wantsStandIn t = false := by
  obtain rfl : f = 5 := Option.some.inj ((show Tryd.prog.funcNamed "varve/varvelaw03.CellsBack" = some 5 by kernel_rfl).symm.trans hf) |>.symm
  obtain rfl : fn = Tryd.f5 := (Option.some.inj (Tryd.func5.symm.trans hfn)).symm
  refine ⟨by kernel_rfl, fun j t ht => ?_⟩
  rw [Tryd.params5] at ht
  have hm := Array.mem_of_getElem? ht
  revert t
  intro t ht hm
  have hall : ∀ t ∈ (#[3, 39, 30] : Array TypeId), Tryd.prog.wantsStandIn t = false := by decide +kernel
  exact hall t hm
/-- The card. -/
theorem card : Rows.CellsBackCardSaid :=
  Claim7.holds_tied_plain_at .later [] _ _ _ _ said (fun _ h => by cases h) (by kernel_rfl) (fun _ h => by cases h) cellsBack_row_tie rfl ⟨rfl, rfl⟩ (by kernel_rfl) rfl plain (by kernel_rfl)
end Go.Proofs.YtngmimhpeeahoaaDoor.cellsBack
namespace Go.Proofs.YtngmimhpeeahoaaDoor
theorem cellsBack_holds : Rows.CellsBackCardSaid := cellsBack.card
end Go.Proofs.YtngmimhpeeahoaaDoor
