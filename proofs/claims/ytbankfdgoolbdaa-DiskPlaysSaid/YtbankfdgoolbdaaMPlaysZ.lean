/- A disk does just what the document says, call by call, through any crashes: true for every script. Conditions: none. -/
import Derived.Test.YtbankfdgoolbdaaMPlays12
namespace Go.Proofs.Ytbankfdgoolbdaa.diskPlays
open Go Go.ChangeShapes Go.WideShapes Go.ChangeAt Go.RowKit Go.Proofs.Ytbankfdgoolbdaa
set_option linter.unusedVariables false
set_option maxRecDepth 100000 in
theorem lifted (os : Os) (started : os.Started) (H : Type) (enc : TypeId × Value → H) :
    ReturnsInHanded {} Try.checked os 7 .any (Rows.diskPlaysSpec.pre6 enc Try.prog Try.f7 Rows.diskPlaysRow.domain false) (Rows.diskPlaysSpec.post enc Try.prog Try.f7 false true false false) := by
  refine returnsInHanded_of_change_sized (C := Try.checked) rk_own started (by kernel_rfl) Try.func7
    (ChangeSpec.witness6 (enc := enc) (C := Try.checked) false ⟨#[], #[.slice none 0 0], []⟩ 8 (by kernel_rfl) (by kernel_rfl) (by kernel_rfl) (by kernel_rfl)) ?_
  intro W base args ds gs before hval0 hW hcnd hsz0 _
  have hval : ∀ (j : Nat) t v, Try.f7.params[j]? = some t → args[j]? = some v → Value.okWide Try.prog W .any base t v := hval0
  have hW' := hW
  obtain ⟨p, q, hA0, hV, rfl, hfz, hnd⟩ := hW
  have hA : DataW.TrodAll enc Try.prog W 0 (fun _ => true) true Try.f7.params.toList args.toList ds p := hA0
  rw [Try.params7] at hA hval
  obtain ⟨v0, vs0, d0', ds0, p0, q0, hargs, rfl, rfl, h0, r0⟩ := trodAll_cons hA
  obtain ⟨rfl, rfl, rfl⟩ := trodAll_nil r0
  obtain rfl : args = #[v0] := by cases args; simp_all
  have hV2 := hV
  obtain ⟨rfl, rfl⟩ := trodVars_none hV2
  obtain ⟨a0, len0, cap0, rfl⟩ := okWide_slice Try.underlying26 (hval 0 26 v0 rfl rfl)
  obtain ⟨fu0, hf0⟩ := h0
  obtain ⟨u0, n0, f0, e0, hS0⟩ := ops_in Try.underlying26 hf0
  obtain rfl : Value.slice a0 len0 cap0 = u0 := by simpa [Value.cells] using e0
  have fin : ∀ {e : Ending} {W' : World}, e = .returned (.bool true) ∧ Kept [] W W' → ∃ v, e = .returned v ∧ Rows.diskPlaysSpec.post enc Try.prog Try.f7 false true false false W #[.slice a0 len0 cap0] v W' := by
    rintro e W' ⟨rfl, hk⟩
    exact ⟨_, rfl, law_post rfl (by kernel_rfl) (by rw [Try.params7]; decide +kernel) hW' rfl rfl rfl hk⟩
  exact (plays_law hS0 (fun i hi => ops_sz Try.underlying26 hS0 hf0 (fun z hz => by simpa using List.all_eq_true.1 hsz0 z (DataW.weights_mem_each (j := 0) (t := 26) (d := _) (by kernel_rfl) rfl z hz)) i hi)).mono fun _ _ => fin
theorem over : Rows.diskPlaysRow.holds Try.pinned (OpenSpec.ofChange Rows.diskPlaysSpec) :=
  OpenClaim.holds_of_wide 7 Try.f7 rfl rfl rfl rfl rfl rfl rfl ⟨rfl, rfl, rfl, rfl, rfl⟩ rfl rfl rfl rfl rfl (by kernel_rfl) Try.func7 (by kernel_rfl)
    (of_decide_eq_true (by kernel_rfl)) (by unfold Func.isWrapper; first | (rw [if_pos (by decide +kernel)]; kernel_rfl) | (rw [if_neg (by decide +kernel)]; exact ⟨rfl, rfl⟩))
    (fun os started H enc _ => lifted os started H enc)
theorem proved : Rows.DiskPlaysSaid := over
end Go.Proofs.Ytbankfdgoolbdaa.diskPlays
namespace Go.Proofs.Ytbankfdgoolbdaa
/-- The row, under a short name, for the claim. -/
theorem diskPlays_holds : Rows.DiskPlaysSaid := diskPlays.proved
end Go.Proofs.Ytbankfdgoolbdaa
