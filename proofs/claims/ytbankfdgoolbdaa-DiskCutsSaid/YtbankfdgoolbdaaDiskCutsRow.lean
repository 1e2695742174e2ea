/- When the power goes at an operation, the disk is left as it is behind those ahead of it, and nothing is done any more: true for every script, every place, every fate. Conditions: none. -/
import Derived.Test.YtbankfdgoolbdaaLawCuts02
import Derived.Test.YtbankfdgoolbdaaDkFateIn
namespace Go.Proofs.Ytbankfdgoolbdaa.diskCuts
open Go Go.ChangeShapes Go.WideShapes Go.ChangeAt Go.RowKit Go.Proofs.Ytbankfdgoolbdaa
set_option linter.unusedVariables false
set_option maxRecDepth 100000 in
theorem lifted (os : Os) (started : os.Started) (H : Type) (enc : TypeId × Value → H) :
    ReturnsInHanded {} Try.checked os 6 .any (Rows.diskCutsSpec.pre6 enc Try.prog Try.f6 Rows.diskCutsRow.domain false) (Rows.diskCutsSpec.post enc Try.prog Try.f6 false true false false) := by
  refine returnsInHanded_of_change_sized (C := Try.checked) rk_own started (by kernel_rfl) Try.func6
    (ChangeSpec.witness6 (enc := enc) (C := Try.checked) false ⟨#[], #[.slice none 0 0, .int .i64 0, .agg #[.int .i64 0, .int .i64 0, .int .i64 0]], []⟩ 8 (by kernel_rfl) (by kernel_rfl) (by kernel_rfl) (by kernel_rfl)) ?_
  intro W base args ds gs before hval0 hW hcnd hsz0 _
  have hval : ∀ (j : Nat) t v, Try.f6.params[j]? = some t → args[j]? = some v → Value.okWide Try.prog W .any base t v := hval0
  have hW' := hW
  obtain ⟨p, q, hA0, hV, rfl, hfz, hnd⟩ := hW
  have hA : DataW.TrodAll enc Try.prog W 0 (fun _ => true) true Try.f6.params.toList args.toList ds p := hA0
  rw [Try.params6] at hA hval
  obtain ⟨v0, vs0, d0', ds0, p0, q0, hargs, rfl, rfl, h0, r0⟩ := trodAll_cons hA
  obtain ⟨v1, vs1, d1', ds1, p1, q1, rfl, rfl, rfl, h1, r1⟩ := trodAll_cons r0
  obtain ⟨v2, vs2, d2', ds2, p2, q2, rfl, rfl, rfl, h2, r2⟩ := trodAll_cons r1
  obtain ⟨rfl, rfl, rfl⟩ := trodAll_nil r2
  obtain rfl : args = #[v0, v1, v2] := by cases args; simp_all
  have hV2 := hV
  obtain ⟨rfl, rfl⟩ := trodVars_none hV2
  obtain ⟨a0, len0, cap0, rfl⟩ := okWide_slice Try.underlying26 (hval 0 26 v0 rfl rfl)
  obtain ⟨fu0, hf0⟩ := h0
  obtain ⟨u0, n0, f0, e0, hS0⟩ := ops_in Try.underlying26 hf0
  obtain rfl : Value.slice a0 len0 cap0 = u0 := by simpa [Value.cells] using e0
  obtain ⟨x1, rfl, _, _, wf1⟩ := open_int Try.underlying3 (hval 1 3 v1 rfl rfl) h1
  obtain ⟨k2, d2, t2, rfl, r2k, r2d, r2t⟩ := fate_in (hval 2 29 v2 rfl rfl) h2
  have fin : ∀ {e : Ending} {W' : World}, e = .returned (.bool true) ∧ Kept [] W W' → ∃ v, e = .returned v ∧ Rows.diskCutsSpec.post enc Try.prog Try.f6 false true false false W #[.slice a0 len0 cap0, .int .i64 x1, FateV k2 d2 t2] v W' := by
    rintro e W' ⟨rfl, hk⟩
    exact ⟨_, rfl, law_post rfl (by kernel_rfl) (by rw [Try.params6]; decide +kernel) hW' rfl rfl rfl hk⟩
  exact (cuts_law hS0 x1 k2 d2 t2).mono fun _ _ => fin
theorem over : Rows.diskCutsRow.holds Try.pinned (OpenSpec.ofChange Rows.diskCutsSpec) :=
  OpenClaim.holds_of_wide 6 Try.f6 rfl rfl rfl rfl rfl rfl rfl ⟨rfl, rfl, rfl, rfl, rfl⟩ rfl rfl rfl rfl rfl (by kernel_rfl) Try.func6 (by kernel_rfl)
    (of_decide_eq_true (by kernel_rfl)) (by unfold Func.isWrapper; first | (rw [if_pos (by decide +kernel)]; kernel_rfl) | (rw [if_neg (by decide +kernel)]; exact ⟨rfl, rfl⟩))
    (fun os started H enc _ => lifted os started H enc)
theorem proved : Rows.DiskCutsSaid := over
end Go.Proofs.Ytbankfdgoolbdaa.diskCuts
namespace Go.Proofs.Ytbankfdgoolbdaa
/-- The row, under a short name, for the claim. -/
theorem diskCuts_holds : Rows.DiskCutsSaid := diskCuts.proved
end Go.Proofs.Ytbankfdgoolbdaa
