/- Of programs that add, whatever the picks, each sum comes out once, and the last one stands: true for every list of counts and every picks. Conditions: none beyond the form's own reach. -/
import Derived.Test.YtfipoadgfebibaaDoorRowKit
import Derived.Test.YtfipoadgfebibaaDoorLawCounts
import Derived.Test.YtfipoadgfebibaaDoorOpenProgs
namespace Go.Proofs.YtfipoadgfebibaaDoor.schedCounts
open Go Go.ChangeShapes Go.WideShapes Go.ChangeAt Go.RowKit Go.Proofs.YtfipoadgfebibaaDoor
set_option linter.unusedVariables false

theorem contract (H : Type) (enc : TypeId × Value → H) (W : World) (base : Nat) (args : Array Value) (ds gs : List (DataW H)) (before : List MemPlace)
    (hval : ∀ (j : Nat) t v, Tryd.f5.params[j]? = some t → args[j]? = some v → Value.okWide Tryd.prog W .any base t v)
    (hW : DataW.Whole enc Tryd.prog Tryd.f5.params.toList Rows.schedCountsSpec.vars false W args.toList ds gs before) (hL : laidMetH Tryd.prog rk_laid W)
    (hsz : (DataW.weightsEach Tryd.prog (Tryd.f5.params.toList ++ Rows.schedCountsSpec.plain.varTypes Tryd.prog) (ds ++ gs)).all (· ≤ reachBytes) = true)
    : Calls Tryd.prog 5 args W fun e W' => ∃ v, e = .returned v ∧ Rows.schedCountsSpec.post enc Tryd.prog Tryd.f5 false true false false W args v W' := by
  have hT := rk_table hL
  have hW' := hW
  obtain ⟨p, q, hA0, hV, rfl, hfz, hnd⟩ := hW
  have hA : DataW.TrodAll enc Tryd.prog W 0 (fun _ => true) true Tryd.f5.params.toList args.toList ds p := hA0
  rw [Tryd.params5] at hA hval
  obtain ⟨v0, vs0, d0, ds0, p0, q0, hargs, rfl, rfl, h0, r0⟩ := trodAll_cons hA
  obtain ⟨v1, vs1, d1, ds1, p1, q1, rfl, rfl, rfl, h1, r1⟩ := trodAll_cons r0
  obtain ⟨rfl, rfl, rfl⟩ := trodAll_nil r1
  obtain rfl : args = #[v0, v1] := by cases args; simp_all
  have hV2 := hV
  obtain ⟨rfl, rfl⟩ := trodVars_none hV2
  obtain ⟨sp0, len0, cap0, zs0, rfl, hl0, hlc0, hcm0, hwf0, hd0, hc0⟩ := ints_in (k := .i64) Tryd.underlying23 Tryd.underlying3 (by kernel_rfl) (hval 0 23 v0 rfl rfl) h0
  have hb0 : len0 ≤ 140737488351232 := by
    rcases hd0 with ⟨rfl, h0⟩ | ⟨rest, rfl⟩
    · omega
    · have := sized_slice (j := 0) hsz (by rw [Tryd.params5]; rfl) rfl Tryd.underlying23
      rw [show Tryd.prog.bytesOf 3 = 8 from by kernel_rfl] at this
      have e : (lits (H := H) .i64 zs0).length = zs0.length := by simp [lits]
      rw [e] at this
      have hr : reachBytes = 140737488351232 := by decide
      omega
  obtain ⟨sp1, len1, cap1, zs1, rfl, hl1, hlc1, hcm1, hwf1, hd1, hc1⟩ := ints_in (k := .i64) Tryd.underlying23 Tryd.underlying3 (by kernel_rfl) (hval 1 23 v1 rfl rfl) h1
  have hb1 : len1 ≤ 140737488351232 := by
    rcases hd1 with ⟨rfl, h0⟩ | ⟨rest, rfl⟩
    · omega
    · have := sized_slice (j := 1) hsz (by rw [Tryd.params5]; rfl) rfl Tryd.underlying23
      rw [show Tryd.prog.bytesOf 3 = 8 from by kernel_rfl] at this
      have e : (lits (H := H) .i64 zs1).length = zs1.length := by simp [lits]
      rw [e] at this
      have hr : reachBytes = 140737488351232 := by decide
      omega
  have fin : ∀ {e : Ending} {W' : World}, e = .returned (.bool true) ∧ Kept [] W W' → ∃ v, e = .returned v ∧ Rows.schedCountsSpec.post enc Tryd.prog Tryd.f5 false true false false W #[.slice sp0 len0 cap0, .slice sp1 len1 cap1] v W' := by
    rintro e W' ⟨rfl, hk⟩
    exact ⟨_, rfl, law_post rfl (by kernel_rfl) (by rw [Tryd.params5]; decide +kernel) hW' rfl rfl rfl hk⟩
  have hpk0 := picks_at (cap := cap0) hb0 hc0
  have hpk := picks_at (cap := cap1) hb1 hc1
  exact (counts_law W hT len0 _ _ hpk0 len1 _ _ _ hpk hlc1).mono fun _ _ => fin

theorem laid_met (os : Os) : laidMet Tryd.prog rk_laid ((rk_world os).forCall (fun _ _ => 0) ⟨#[], #[.slice none 0 0, .slice none 0 0], []⟩).memory :=
  laidMet_of_run' 8 (by kernel_rfl) (by kernel_rfl)
theorem reads (os : Os) {H : Type} (enc : TypeId × Value → H) : ∃ places, DataW.whole enc Tryd.prog ((rk_world os).forCall (fun _ _ => 0) ⟨#[], #[.slice none 0 0, .slice none 0 0], []⟩).memory Tryd.f5.params.toList Rows.schedCountsSpec.vars false (#[.slice none 0 0, .slice none 0 0] : Array Value).toList 8 = some ([.nil, .nil], [], places) :=
  ⟨[], by kernel_rfl⟩
set_option maxRecDepth 100000 in
theorem lifted (os : Os) (started : os.Started) (H : Type) (enc : TypeId × Value → H) (F : Stop.Interp) :
    ReturnsInHanded {} Tryd.checked os 5 .any ((OpenSpec.ofChange Rows.schedCountsSpec).preRow enc Tryd.prog Tryd.f5 Rows.schedCountsRow.domain false Rows.schedCountsRow.laid) (((OpenSpec.ofChange Rows.schedCountsSpec).at F).post enc Tryd.prog Tryd.f5 false true false false) := by
  obtain ⟨places, hx⟩ := reads os enc
  refine returnsInHanded_of_row (C := Tryd.checked) (s := OpenSpec.ofChange Rows.schedCountsSpec) rk_own started (by kernel_rfl) Tryd.func5
    (witness_row_at (enc := enc) (C := Tryd.checked) false (rk_world os) #[.slice none 0 0, .slice none 0 0] rfl (by kernel_rfl) (by kernel_rfl) (by kernel_rfl)
      (OpenSpec.preRow_of_cond 8 hx (by kernel_rfl) (fun k hk => by cases hk) (by kernel_rfl) (laid_met os))) ?_
  intro W base args ds gs before hval hW _ _ hsz hL _ _
  exact contract H enc W base args ds gs before hval hW hL hsz

theorem said : Rows.SchedCountsSaid :=
  OpenClaim.holds_of_cond 5 Tryd.f5 rfl rfl rfl rfl rfl rfl rfl ⟨rfl, rfl, rfl, rfl, rfl⟩ rfl rfl rfl rfl rfl (by kernel_rfl) Tryd.func5 (by kernel_rfl)
    (of_decide_eq_true (by kernel_rfl)) (by unfold Func.isWrapper; first | (rw [if_pos (by decide +kernel)]; kernel_rfl) | (rw [if_neg (by decide +kernel)]; exact ⟨rfl, rfl⟩))
    (fun os started H enc _ F => by rw [OpenClaim.pre_eq_preRow]; exact lifted os started H enc F)
theorem plain (f : FuncId) (fn : Func) (hf : Tryd.pinned.checked.prog.funcNamed "varve/varvelaw07.SchedCounts" = some f) (hfn : Tryd.pinned.checked.prog.funcs[f]? = some fn) :
    true = Tryd.pinned.checked.prog.looks [] ∧ ∀ (j : Nat) t, fn.params[j]? = some t → Tryd.pinned.checked.prog.wantsStandIn t = false := by
  obtain rfl : f = 5 := Option.some.inj ((show Tryd.prog.funcNamed "varve/varvelaw07.SchedCounts" = some 5 by kernel_rfl).symm.trans hf) |>.symm
  obtain rfl : fn = Tryd.f5 := (Option.some.inj (Tryd.func5.symm.trans hfn)).symm
  refine ⟨by kernel_rfl, fun j t ht => ?_⟩
  rw [Tryd.params5] at ht
  have hm := Array.mem_of_getElem? ht
  revert t
  intro t ht hm
  have hall : ∀ t ∈ (#[23, 23] : Array TypeId), Tryd.prog.wantsStandIn t = false := by decide +kernel
  exact hall t hm
/-- The card. -/
theorem card : Rows.SchedCountsCardSaid :=
  Claim7.holds_tied_plain_at .later [] _ _ _ _ said (fun _ h => by cases h) (by kernel_rfl) (fun _ h => by cases h) schedCounts_row_tie rfl ⟨rfl, rfl⟩ (by kernel_rfl) rfl plain (by kernel_rfl)
end Go.Proofs.YtfipoadgfebibaaDoor.schedCounts
namespace Go.Proofs.YtfipoadgfebibaaDoor
theorem schedCounts_holds : Rows.SchedCountsCardSaid := schedCounts.card
end Go.Proofs.YtfipoadgfebibaaDoor
