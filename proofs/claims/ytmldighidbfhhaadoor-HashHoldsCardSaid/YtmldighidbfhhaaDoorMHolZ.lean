/- When all is done the arena holds a cell for each bucket and for each key, and for nothing else, and each key is found: true for every number of buckets, every list of asks and every list of picks. Conditions: none beyond the form's own reach. -/
import Derived.Test.YtmldighidbfhhaaDoorMHol2
import Derived.Test.YtmldighidbfhhaaDoorMHol6
import Derived.Test.YtmldighidbfhhaaDoorMHol10
namespace Go.Proofs.YtmldighidbfhhaaDoor.hashHolds
open Go Go.ChangeShapes Go.WideShapes Go.ChangeAt Go.RowKit Go.Proofs.YtmldighidbfhhaaDoor
set_option linter.unusedVariables false

set_option maxRecDepth 100000 in
theorem contract (H : Type) (enc : TypeId × Value → H) (W : World) (base : Nat) (args : Array Value) (ds gs : List (DataW H)) (before : List MemPlace)
    (hval : ∀ (j : Nat) t v, Tryd.f6.params[j]? = some t → args[j]? = some v → Value.okWide Tryd.prog W .any base t v)
    (hW : DataW.Whole enc Tryd.prog Tryd.f6.params.toList Rows.hashHoldsSpec.vars false W args.toList ds gs before) (hL : laidMetH Tryd.prog rk_laid W)
    (hsz : (DataW.weightsEach Tryd.prog (Tryd.f6.params.toList ++ Rows.hashHoldsSpec.plain.varTypes Tryd.prog) (ds ++ gs)).all (· ≤ reachBytes) = true)
    : Calls Tryd.prog 6 args W fun e W' => ∃ v, e = .returned v ∧ Rows.hashHoldsSpec.post enc Tryd.prog Tryd.f6 false true false false W args v W' := by
  have hT := rk_table hL
  have hW' := hW
  obtain ⟨p, q, hA0, hV, rfl, hfz, hnd⟩ := hW
  have hA : DataW.TrodAll enc Tryd.prog W 0 (fun _ => true) true Tryd.f6.params.toList args.toList ds p := hA0
  rw [Tryd.params6] at hA hval
  obtain ⟨v0, vs0, d0, ds0, p0, q0, hargs, rfl, rfl, h0, r0⟩ := trodAll_cons hA
  obtain ⟨v1, vs1, d1, ds1, p1, q1, rfl, rfl, rfl, h1, r1⟩ := trodAll_cons r0
  obtain ⟨v2, vs2, d2, ds2, p2, q2, rfl, rfl, rfl, h2, r2⟩ := trodAll_cons r1
  obtain ⟨rfl, rfl, rfl⟩ := trodAll_nil r2
  obtain rfl : args = #[v0, v1, v2] := by cases args; simp_all
  have hV2 := hV
  obtain ⟨rfl, rfl⟩ := trodVars_none hV2
  obtain ⟨a0, rfl, rfl, rfl, w0⟩ := open_int Tryd.underlying3 (hval 0 3 v0 rfl rfl) h0
  obtain ⟨sp1, len1, cap1, f1, rfl, hlc1, hcm1, hd1, hc1⟩ := asks_in Tryd.underlying33 (hval 1 33 v1 rfl rfl) h1
  obtain ⟨sp2, len2, cap2, zs2, rfl, hl2, hlc2, hcm2, hwf2, hn2, hd2, hc2⟩ := ints_in2 (k := .i64) Tryd.underlying34 Tryd.underlying3 (by kernel_rfl) (hval 2 34 v2 rfl rfl) h2
  have hb2 : len2 ≤ 140737488351232 / 8 := by
    rcases hd2 with ⟨rfl, h0⟩ | ⟨rest, rfl⟩
    · omega
    · have := sized_slice (j := 2) hsz (by rw [Tryd.params6]; rfl) rfl Tryd.underlying34
      rw [show Tryd.prog.bytesOf 3 = 8 from by kernel_rfl] at this
      have e : (lits (H := H) .i64 zs2).length = zs2.length := by simp [lits]
      rw [e] at this
      have hr : reachBytes = 140737488351232 := by decide
      omega
  have hin2 : InRow W sp2 len2 (fun i => zs2.getD i 0) := ⟨fun e => (hn2 e).1, fun h => hc2 h⟩
  have fin : ∀ {e : Ending} {W' : World}, e = .returned (.bool true) ∧ Kept [] W W' → ∃ v, e = .returned v ∧ Rows.hashHoldsSpec.post enc Tryd.prog Tryd.f6 false true false false W #[.int .i64 a0, .slice sp1 len1 cap1, .slice sp2 len2 cap2] v W' := by
    rintro e W' ⟨rfl, hk⟩
    exact ⟨_, rfl, law_post rfl (by kernel_rfl) (by rw [Tryd.params6]; decide +kernel) hW' rfl rfl rfl hk⟩
  exact (holds_law hT a0 hc1 hin2 hlc1 hcm1 hlc2 hcm2).mono fun _ _ => fin

theorem laid_met (os : Os) : laidMet Tryd.prog rk_laid ((rk_world os).forCall (fun _ _ => 0) ⟨#[], #[.int .i64 0, .slice none 0 0, .slice none 0 0], []⟩).memory :=
  laidMet_of_run' 8 (by kernel_rfl) (by kernel_rfl)
theorem reads (os : Os) {H : Type} (enc : TypeId × Value → H) : ∃ places, DataW.whole enc Tryd.prog ((rk_world os).forCall (fun _ _ => 0) ⟨#[], #[.int .i64 0, .slice none 0 0, .slice none 0 0], []⟩).memory Tryd.f6.params.toList Rows.hashHoldsSpec.vars false (#[.int .i64 0, .slice none 0 0, .slice none 0 0] : Array Value).toList 8 = some ([.lit (.int .i64 0), .nil, .nil], [], places) :=
  ⟨[], by kernel_rfl⟩
set_option maxRecDepth 100000 in
theorem lifted (os : Os) (started : os.Started) (H : Type) (enc : TypeId × Value → H) (F : Stop.Interp) :
    ReturnsInHanded {} Tryd.checked os 6 .any ((OpenSpec.ofChange Rows.hashHoldsSpec).preRow enc Tryd.prog Tryd.f6 Rows.hashHoldsRow.domain false Rows.hashHoldsRow.laid) (((OpenSpec.ofChange Rows.hashHoldsSpec).at F).post enc Tryd.prog Tryd.f6 false true false false) := by
  obtain ⟨places, hx⟩ := reads os enc
  refine returnsInHanded_of_row (C := Tryd.checked) (s := OpenSpec.ofChange Rows.hashHoldsSpec) rk_own started (by kernel_rfl) Tryd.func6
    (witness_row_at (enc := enc) (C := Tryd.checked) false (rk_world os) #[.int .i64 0, .slice none 0 0, .slice none 0 0] rfl (by kernel_rfl) (by kernel_rfl) (by kernel_rfl)
      (OpenSpec.preRow_of_cond 8 hx (by kernel_rfl) (fun k hk => by cases hk) (by kernel_rfl) (laid_met os))) ?_
  intro W base args ds gs before hval hW _ _ hsz hL _ _
  exact contract H enc W base args ds gs before hval hW hL hsz

theorem said : Rows.HashHoldsSaid :=
  OpenClaim.holds_of_cond 6 Tryd.f6 rfl rfl rfl rfl rfl rfl rfl ⟨rfl, rfl, rfl, rfl, rfl⟩ rfl rfl rfl rfl rfl (by kernel_rfl) Tryd.func6 (by kernel_rfl)
    (of_decide_eq_true (by kernel_rfl)) (by unfold Func.isWrapper; first | (rw [if_pos (by decide +kernel)]; kernel_rfl) | (rw [if_neg (by decide +kernel)]; exact ⟨rfl, rfl⟩))
    (fun os started H enc _ F => by rw [OpenClaim.pre_eq_preRow]; exact lifted os started H enc F)
theorem plain (f : FuncId) (fn : Func) (hf : Tryd.pinned.checked.prog.funcNamed "varve/varvelaw09.HashHolds" = some f) (hfn : Tryd.pinned.checked.prog.funcs[f]? = some fn) :
    false = Tryd.pinned.checked.prog.looks [] ∧ ∀ (j : Nat) t, fn.params[j]? = some t → Tryd.pinned.checked.prog.wantsStandIn t = false := by
  obtain rfl : f = 6 := Option.some.inj ((show Tryd.prog.funcNamed "varve/varvelaw09.HashHolds" = some 6 by kernel_rfl).symm.trans hf) |>.symm
  obtain rfl : fn = Tryd.f6 := (Option.some.inj (Tryd.func6.symm.trans hfn)).symm
  refine ⟨by kernel_rfl, fun j t ht => ?_⟩
  rw [Tryd.params6] at ht
  have hm := Array.mem_of_getElem? ht
  revert t
  intro t ht hm
  have hall : ∀ t ∈ (#[3, 33, 34] : Array TypeId), Tryd.prog.wantsStandIn t = false := by decide +kernel
  exact hall t hm
/-- The card. -/
theorem card : Rows.HashHoldsCardSaid :=
  Claim7.holds_tied_plain_at .later [] _ _ _ _ said (fun _ h => by cases h) (by kernel_rfl) (fun _ h => by cases h) hashHolds_row_tie rfl ⟨rfl, rfl⟩ (by kernel_rfl) rfl plain (by kernel_rfl)
end Go.Proofs.YtmldighidbfhhaaDoor.hashHolds
namespace Go.Proofs.YtmldighidbfhhaaDoor
theorem hashHolds_holds : Rows.HashHoldsCardSaid := hashHolds.card
end Go.Proofs.YtmldighidbfhhaaDoor
