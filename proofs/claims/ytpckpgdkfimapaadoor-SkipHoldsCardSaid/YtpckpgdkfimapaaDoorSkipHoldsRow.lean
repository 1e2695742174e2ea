/- When all is done the arena holds the cells of all towers and nothing else, all keys are in order, and each is found: true for every list of asks and every list of picks. Conditions: none beyond the form's own reach. -/
import Derived.Test.YtpckpgdkfimapaaDoorRowKit
import Derived.Test.YtpckpgdkfimapaaDoorOpenAsks10
import Derived.Test.YtpckpgdkfimapaaDoorIntsIn10
import Derived.Test.YtpckpgdkfimapaaDoorLawHolds10
namespace Go.Proofs.YtpckpgdkfimapaaDoor.skipHolds
open Go Go.ChangeShapes Go.WideShapes Go.ChangeAt Go.RowKit Go.Proofs.YtpckpgdkfimapaaDoor
set_option linter.unusedVariables false

set_option maxRecDepth 100000 in
theorem contract (H : Type) (enc : TypeId × Value → H) (W : World) (base : Nat) (args : Array Value) (ds gs : List (DataW H)) (before : List MemPlace)
    (hval : ∀ (j : Nat) t v, Tryd.f4.params[j]? = some t → args[j]? = some v → Value.okWide Tryd.prog W .any base t v)
    (hW : DataW.Whole enc Tryd.prog Tryd.f4.params.toList Rows.skipHoldsSpec.vars false W args.toList ds gs before) (hL : laidMetH Tryd.prog rk_laid W)
    (hsz : (DataW.weightsEach Tryd.prog (Tryd.f4.params.toList ++ Rows.skipHoldsSpec.plain.varTypes Tryd.prog) (ds ++ gs)).all (· ≤ reachBytes) = true)
    : Calls Tryd.prog 4 args W fun e W' => ∃ v, e = .returned v ∧ Rows.skipHoldsSpec.post enc Tryd.prog Tryd.f4 false true false false W args v W' := by
  have hT := rk_table hL
  have hW' := hW
  obtain ⟨p, q, hA0, hV, rfl, hfz, hnd⟩ := hW
  have hA : DataW.TrodAll enc Tryd.prog W 0 (fun _ => true) true Tryd.f4.params.toList args.toList ds p := hA0
  rw [Tryd.params4] at hA hval
  obtain ⟨v0, vs0, d0, ds0, p0, q0, hargs, rfl, rfl, h0, r0⟩ := trodAll_cons hA
  obtain ⟨v1, vs1, d1, ds1, p1, q1, rfl, rfl, rfl, h1, r1⟩ := trodAll_cons r0
  obtain ⟨rfl, rfl, rfl⟩ := trodAll_nil r1
  obtain rfl : args = #[v0, v1] := by cases args; simp_all
  have hV2 := hV
  obtain ⟨rfl, rfl⟩ := trodVars_none hV2
  obtain ⟨sp0, len0, cap0, f0, rfl, hlc0, hcm0, hd0, hc0⟩ := asks_in Tryd.underlying22 (hval 0 22 v0 rfl rfl) h0
  obtain ⟨sp1, len1, cap1, zs1, rfl, hl1, hlc1, hcm1, hwf1, hn1, hd1, hc1⟩ := ints_in2 (k := .i64) Tryd.underlying23 Tryd.underlying3 (by kernel_rfl) (hval 1 23 v1 rfl rfl) h1
  have hin1 : InRow W sp1 len1 (fun i => zs1.getD i 0) := ⟨fun e => (hn1 e).1, fun h => hc1 h⟩
  have hrg1 : ∀ j, j < len1 → -9223372036854775808 ≤ zs1.getD j 0 ∧ zs1.getD j 0 < 9223372036854775808 := fun j hj => nums_range hl1 hwf1 hj
  have fin : ∀ {e : Ending} {W' : World}, e = .returned (.bool true) ∧ Kept [] W W' → ∃ v, e = .returned v ∧ Rows.skipHoldsSpec.post enc Tryd.prog Tryd.f4 false true false false W #[.slice sp0 len0 cap0, .slice sp1 len1 cap1] v W' := by
    rintro e W' ⟨rfl, hk⟩
    exact ⟨_, rfl, law_post rfl (by kernel_rfl) (by rw [Tryd.params4]; decide +kernel) hW' rfl rfl rfl hk⟩
  exact (holds10_all hT hc0 hin1 hrg1 hlc0 hcm0 hlc1 hcm1).mono fun _ _ => fin

theorem laid_met (os : Os) : laidMet Tryd.prog rk_laid ((rk_world os).forCall (fun _ _ => 0) ⟨#[], #[.slice none 0 0, .slice none 0 0], []⟩).memory :=
  laidMet_of_run' 8 (by kernel_rfl) (by kernel_rfl)
theorem reads (os : Os) {H : Type} (enc : TypeId × Value → H) : ∃ places, DataW.whole enc Tryd.prog ((rk_world os).forCall (fun _ _ => 0) ⟨#[], #[.slice none 0 0, .slice none 0 0], []⟩).memory Tryd.f4.params.toList Rows.skipHoldsSpec.vars false (#[.slice none 0 0, .slice none 0 0] : Array Value).toList 8 = some ([.nil, .nil], [], places) :=
  ⟨[], by kernel_rfl⟩
set_option maxRecDepth 100000 in
theorem lifted (os : Os) (started : os.Started) (H : Type) (enc : TypeId × Value → H) (F : Stop.Interp) :
    ReturnsInHanded {} Tryd.checked os 4 .any ((OpenSpec.ofChange Rows.skipHoldsSpec).preRow enc Tryd.prog Tryd.f4 Rows.skipHoldsRow.domain false Rows.skipHoldsRow.laid) (((OpenSpec.ofChange Rows.skipHoldsSpec).at F).post enc Tryd.prog Tryd.f4 false true false false) := by
  obtain ⟨places, hx⟩ := reads os enc
  refine returnsInHanded_of_row (C := Tryd.checked) (s := OpenSpec.ofChange Rows.skipHoldsSpec) rk_own started (by kernel_rfl) Tryd.func4
    (witness_row_at (enc := enc) (C := Tryd.checked) false (rk_world os) #[.slice none 0 0, .slice none 0 0] rfl (by kernel_rfl) (by kernel_rfl) (by kernel_rfl)
      (OpenSpec.preRow_of_cond 8 hx (by kernel_rfl) (fun k hk => by cases hk) (by kernel_rfl) (laid_met os))) ?_
  intro W base args ds gs before hval hW _ _ hsz hL _ _
  exact contract H enc W base args ds gs before hval hW hL hsz

theorem said : Rows.SkipHoldsSaid :=
  OpenClaim.holds_of_cond 4 Tryd.f4 rfl rfl rfl rfl rfl rfl rfl ⟨rfl, rfl, rfl, rfl, rfl⟩ rfl rfl rfl rfl rfl (by kernel_rfl) Tryd.func4 (by kernel_rfl)
    (of_decide_eq_true (by kernel_rfl)) (by unfold Func.isWrapper; first | (rw [if_pos (by decide +kernel)]; kernel_rfl) | (rw [if_neg (by decide +kernel)]; exact ⟨rfl, rfl⟩))
    (fun os started H enc _ F => by rw [OpenClaim.pre_eq_preRow]; exact lifted os started H enc F)
theorem plain (f : FuncId) (fn : Func) (hf : Tryd.pinned.checked.prog.funcNamed "varve/varvelaw10.SkipHolds" = some f) (hfn : Tryd.pinned.checked.prog.funcs[f]? = some fn) :
    false = Tryd.pinned.checked.prog.looks [] ∧ ∀ (j : Nat) t, fn.params[j]? = some t → Tryd.pinned.checked.prog.wantsStandIn t = false := by
  obtain rfl : f = 4 := Option.some.inj ((show Tryd.prog.funcNamed "varve/varvelaw10.SkipHolds" = some 4 by kernel_rfl).symm.trans hf) |>.symm
  obtain rfl : fn = Tryd.f4 := (Option.some.inj (Tryd.func4.symm.trans hfn)).symm
  refine ⟨by kernel_rfl, fun j t ht => ?_⟩
  rw [Tryd.params4] at ht
  have hm := Array.mem_of_getElem? ht
  revert t
  intro t ht hm
  have hall : ∀ t ∈ (#[22, 23] : Array TypeId), Tryd.prog.wantsStandIn t = false := by decide +kernel
  exact hall t hm
/-- The card. -/
theorem card : Rows.SkipHoldsCardSaid :=
  Claim7.holds_tied_plain_at .later [] _ _ _ _ said (fun _ h => by cases h) (by kernel_rfl) (fun _ h => by cases h) skipHolds_row_tie rfl ⟨rfl, rfl⟩ (by kernel_rfl) rfl plain (by kernel_rfl)
end Go.Proofs.YtpckpgdkfimapaaDoor.skipHolds
namespace Go.Proofs.YtpckpgdkfimapaaDoor
theorem skipHolds_holds : Rows.SkipHoldsCardSaid := skipHolds.card
end Go.Proofs.YtpckpgdkfimapaaDoor
