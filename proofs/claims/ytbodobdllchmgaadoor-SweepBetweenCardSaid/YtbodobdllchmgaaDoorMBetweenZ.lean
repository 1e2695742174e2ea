/- Whatever is laid in between, a sweep takes nothing away that is seen at the mark or later, of chains whose versions stand in order, to which newer versions are pushed while it goes: true for every list of gaps, every mark and every list of pushes. Conditions: none beyond the form's own reach. -/
import Derived.Test.YtbodobdllchmgaaDoorMBetween2
import Derived.Test.YtbodobdllchmgaaDoorMBetween14
import Derived.Test.YtbodobdllchmgaaDoorMBetween15
namespace Go.Proofs.YtbodobdllchmgaaDoor.sweepBetween
open Go Go.ChangeShapes Go.WideShapes Go.ChangeAt Go.RowKit Go.Proofs.YtbodobdllchmgaaDoor
set_option linter.unusedVariables false

set_option maxRecDepth 100000 in
theorem contract (H : Type) (enc : TypeId × Value → H) (W : World) (base : Nat) (args : Array Value) (ds gs : List (DataW H)) (before : List MemPlace)
    (hval : ∀ (j : Nat) t v, Tryd.f8.params[j]? = some t → args[j]? = some v → Value.okWide Tryd.prog W .any base t v)
    (hW : DataW.Whole enc Tryd.prog Tryd.f8.params.toList Rows.sweepBetweenSpec.vars false W args.toList ds gs before) (hL : laidMetH Tryd.prog rk_laid W)
    (hsz : (DataW.weightsEach Tryd.prog (Tryd.f8.params.toList ++ Rows.sweepBetweenSpec.plain.varTypes Tryd.prog) (ds ++ gs)).all (· ≤ reachBytes) = true)
    : Calls Tryd.prog 8 args W fun e W' => ∃ v, e = .returned v ∧ Rows.sweepBetweenSpec.post enc Tryd.prog Tryd.f8 false true false false W args v W' := by
  have hT := rk_table hL
  have hW' := hW
  obtain ⟨p, q, hA0, hV, rfl, hfz, hnd⟩ := hW
  have hA : DataW.TrodAll enc Tryd.prog W 0 (fun _ => true) true Tryd.f8.params.toList args.toList ds p := hA0
  rw [Tryd.params8] at hA hval
  obtain ⟨v0, vs0, d0, ds0, p0, q0, hargs, rfl, rfl, h0, r0⟩ := trodAll_cons hA
  obtain ⟨v1, vs1, d1, ds1, p1, q1, rfl, rfl, rfl, h1, r1⟩ := trodAll_cons r0
  obtain ⟨v2, vs2, d2, ds2, p2, q2, rfl, rfl, rfl, h2, r2⟩ := trodAll_cons r1
  obtain ⟨rfl, rfl, rfl⟩ := trodAll_nil r2
  obtain rfl : args = #[v0, v1, v2] := by cases args; simp_all
  have hV2 := hV
  obtain ⟨rfl, rfl⟩ := trodVars_none hV2
  obtain ⟨sp0, len0, cap0, f0, rfl, hlc0, hcm0, hd0, hc0⟩ := gaps_in Tryd.underlying48 (hval 0 48 v0 rfl rfl) h0
  have hb0 : len0 ≤ 140737488351232 := by
    rcases hd0 with ⟨rfl, h0⟩ | ⟨elems, rest, rfl, he⟩
    · omega
    · have := sized_slice (j := 0) hsz (by rw [Tryd.params8]; rfl) rfl Tryd.underlying48
      rw [show Tryd.prog.bytesOf 22 = 24 from by kernel_rfl] at this
      have hr : reachBytes = 140737488351232 := by decide
      omega
  obtain ⟨a1, rfl, rfl, rfl, w1⟩ := open_int Tryd.underlying2 (hval 1 2 v1 rfl rfl) h1
  obtain ⟨sp2, len2, cap2, zs2, rfl, hl2, hlc2, hcm2, hwf2, hn2, hd2, hc2⟩ := ints_in2 (k := .i64) Tryd.underlying22 Tryd.underlying3 (by kernel_rfl) (hval 2 22 v2 rfl rfl) h2
  have hb2 : len2 ≤ 140737488351232 / 8 := by
    rcases hd2 with ⟨rfl, h0⟩ | ⟨rest, rfl⟩
    · omega
    · have := sized_slice (j := 2) hsz (by rw [Tryd.params8]; rfl) rfl Tryd.underlying22
      rw [show Tryd.prog.bytesOf 3 = 8 from by kernel_rfl] at this
      have e : (lits (H := H) .i64 zs2).length = zs2.length := by simp [lits]
      rw [e] at this
      have hr : reachBytes = 140737488351232 := by decide
      omega
  have hin2 : InRow W sp2 len2 (fun i => zs2.getD i 0) := ⟨fun e => (hn2 e).1, fun h => hc2 h⟩
  have fin : ∀ {e : Ending} {W' : World}, e = .returned (.bool true) ∧ Kept [] W W' → ∃ v, e = .returned v ∧ Rows.sweepBetweenSpec.post enc Tryd.prog Tryd.f8 false true false false W #[.slice sp0 len0 cap0, .int .i64 a1, .slice sp2 len2 cap2] v W' := by
    rintro e W' ⟨rfl, hk⟩
    exact ⟨_, rfl, law_post rfl (by kernel_rfl) (by rw [Tryd.params8]; decide +kernel) hW' rfl rfl rfl hk⟩
  exact (between_law W hT _ _ _ _ hc0 (by omega) a1 _ _ _ _ hin2 hb2).mono fun _ _ => fin

theorem laid_met (os : Os) : laidMet Tryd.prog rk_laid ((rk_world os).forCall (fun _ _ => 0) ⟨#[], #[.slice none 0 0, .int .i64 0, .slice none 0 0], []⟩).memory :=
  laidMet_of_run' 8 (by kernel_rfl) (by kernel_rfl)
theorem reads (os : Os) {H : Type} (enc : TypeId × Value → H) : ∃ places, DataW.whole enc Tryd.prog ((rk_world os).forCall (fun _ _ => 0) ⟨#[], #[.slice none 0 0, .int .i64 0, .slice none 0 0], []⟩).memory Tryd.f8.params.toList Rows.sweepBetweenSpec.vars false (#[.slice none 0 0, .int .i64 0, .slice none 0 0] : Array Value).toList 8 = some ([.nil, .lit (.int .i64 0), .nil], [], places) :=
  ⟨[], by kernel_rfl⟩
set_option maxRecDepth 100000 in
theorem lifted (os : Os) (started : os.Started) (H : Type) (enc : TypeId × Value → H) (F : Stop.Interp) :
    ReturnsInHanded {} Tryd.checked os 8 .any ((OpenSpec.ofChange Rows.sweepBetweenSpec).preRow enc Tryd.prog Tryd.f8 Rows.sweepBetweenRow.domain false Rows.sweepBetweenRow.laid) (((OpenSpec.ofChange Rows.sweepBetweenSpec).at F).post enc Tryd.prog Tryd.f8 false true false false) := by
  obtain ⟨places, hx⟩ := reads os enc
  refine returnsInHanded_of_row (C := Tryd.checked) (s := OpenSpec.ofChange Rows.sweepBetweenSpec) rk_own started (by kernel_rfl) Tryd.func8
    (witness_row_at (enc := enc) (C := Tryd.checked) false (rk_world os) #[.slice none 0 0, .int .i64 0, .slice none 0 0] rfl (by kernel_rfl) (by kernel_rfl) (by kernel_rfl)
      (OpenSpec.preRow_of_cond 8 hx (by kernel_rfl) (fun k hk => by cases hk) (by kernel_rfl) (laid_met os))) ?_
  intro W base args ds gs before hval hW _ _ hsz hL _ _
  exact contract H enc W base args ds gs before hval hW hL hsz

theorem said : Rows.SweepBetweenSaid :=
  OpenClaim.holds_of_cond 8 Tryd.f8 rfl rfl rfl rfl rfl rfl rfl ⟨rfl, rfl, rfl, rfl, rfl⟩ rfl rfl rfl rfl rfl (by kernel_rfl) Tryd.func8 (by kernel_rfl)
    (of_decide_eq_true (by kernel_rfl)) (by unfold Func.isWrapper; first | (rw [if_pos (by decide +kernel)]; kernel_rfl) | (rw [if_neg (by decide +kernel)]; exact ⟨rfl, rfl⟩))
    (fun os started H enc _ F => by rw [OpenClaim.pre_eq_preRow]; exact lifted os started H enc F)
theorem plain (f : FuncId) (fn : Func) (hf : Tryd.pinned.checked.prog.funcNamed "varve/varvelaw15.SweepBetween" = some f) (hfn : Tryd.pinned.checked.prog.funcs[f]? = some fn) :
    false = Tryd.pinned.checked.prog.looks [] ∧ ∀ (j : Nat) t, fn.params[j]? = some t → Tryd.pinned.checked.prog.wantsStandIn t = false := by
  obtain rfl : f = 8 := Option.some.inj ((show Tryd.prog.funcNamed "varve/varvelaw15.SweepBetween" = some 8 by kernel_rfl).symm.trans hf) |>.symm
  obtain rfl : fn = Tryd.f8 := (Option.some.inj (Tryd.func8.symm.trans hfn)).symm
  refine ⟨by kernel_rfl, fun j t ht => ?_⟩
  rw [Tryd.params8] at ht
  have hm := Array.mem_of_getElem? ht
  revert t
  intro t ht hm
  have hall : ∀ t ∈ (#[48, 2, 22] : Array TypeId), Tryd.prog.wantsStandIn t = false := by decide +kernel
  exact hall t hm
/-- The card. -/
theorem card : Rows.SweepBetweenCardSaid :=
  Claim7.holds_tied_plain_at .later [] _ _ _ _ said (fun _ h => by cases h) (by kernel_rfl) (fun _ h => by cases h) sweepBetween_row_tie rfl ⟨rfl, rfl⟩ (by kernel_rfl) rfl plain (by kernel_rfl)
end Go.Proofs.YtbodobdllchmgaaDoor.sweepBetween
namespace Go.Proofs.YtbodobdllchmgaaDoor
theorem sweepBetween_holds : Rows.SweepBetweenCardSaid := sweepBetween.card
end Go.Proofs.YtbodobdllchmgaaDoor
