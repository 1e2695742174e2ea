/- An operation that is stepped until it is done. -/
import Derived.Test.YtpckpgdkfimapaaDoorSkipRun
namespace Go.Proofs.YtpckpgdkfimapaaDoor
open Go Go.RowKit
set_option linter.unusedVariables false

variable {o : List Nat} {w0 w : World} {b : Nat} {x : SkIx} {T : ASk} {ob : Nat} {q : ASop}

/-- A step that may be the last one, or leaves fewer. -/
def Ends (ob : Nat) (R : Nat → World → Prop) (F : World → Prop) : Prop :=
  ∀ c w, R c w → Calls Tryd.prog 21 #[.pointer (some ⟨ob, 0, none⟩)] w fun e w' => (e = .returned (.bool true) ∧ F w') ∨ (e = .returned (.bool false) ∧ ∃ c', c' < c ∧ R c' w')

set_option maxHeartbeats 1000000 in
set_option maxRecDepth 100000 in
theorem done_any {R : Nat → World → Prop} {F : World → Prop} (hR : Ends ob R F) (c : Nat) (most : Nat) (hm : c + 1 ≤ most) (hm9 : most ≤ 1000000000000) (h : R c w) :
    Calls Tryd.prog 17 #[.pointer (some ⟨ob, 0, none⟩), .int .i64 (most : Nat)] w fun e w' => ∃ r : Nat, e = .returned (.int .i64 ((r : Int) + 1)) ∧ F w' := by
  have HR := Lib.hid hR
  have H := Lib.hid h
  clear hR h
  go_enter Tryd.func17, Tryd.ntmps17
  go_wp2_with fail
  go_loopg [5] c (fun k iv wr => ∃ i : Nat, i + 1 + k ≤ most ∧ iv = .int .i64 ((i : Int) + 1) ∧ R k wr)
  case atStart => exact ⟨0, by omega, rfl, H.out⟩
  case round =>
    clear H
    obtain ⟨i, hi, rfl, hX⟩ := hrel
    have HS := Lib.hid (HR.out _ _ hX)
    have HI := Lib.hid hi
    have d1 : decide ((i : Int) + 1 ≤ (most : Int)) = true := decide_eq_true (by omega)
    have hi9 : (i : Int) + 1 ≤ 1000000000000 := by omega
    clear hX hi
    go_wp2_with fail
    refine HS.out.mono ?_
    rintro e w2 (⟨rfl, hF⟩ | ⟨rfl, c', hc', hX⟩)
    · have HF := Lib.hid hF
      clear hF HS
      go_wp2_with fail
      go_ret
      exact ⟨i, rfl, HF.out⟩
    · have HC := Lib.hid hc'
      have HX := Lib.hid hX
      clear hc' hX HS
      go_wp2_with fail
      go_roundg c'
      case measure => exact HC.out
      case rel => exact ⟨i + 1, by have := HI.out; have := HC.out; omega, by go_num, HX.out⟩

/-- An operation whose steps are reckoned. -/
theorem run_done {n m : Nat} {T' : ASk} {q' : ASop} (hrun : runB (n + 1) T q = some (T', q', m)) (h : Has o w0 w (SkOp b x T ob q)) (hr : SkRep x.S x.C T) (hT : TabAt w0) (ho : 0 ∉ o) (most : Nat) (hm : n + 1 ≤ most) (hm9 : most ≤ 1000000000000) :
    Calls Tryd.prog 17 #[.pointer (some ⟨ob, 0, none⟩), .int .i64 (most : Nat)] w fun e w' => ∃ r : Nat, e = .returned (.int .i64 ((r : Int) + 1)) ∧ ∃ x', SkRep x'.S x'.C T' ∧ Has o w0 w' (SkOp b x' T' ob q') := by
  refine done_any (R := fun c W => ∃ (T : ASk) (q : ASop) (x : SkIx) (m : Nat), runB (c + 1) T q = some (T', q', m) ∧ SkRep x.S x.C T ∧ Has o w0 W (SkOp b x T ob q)) (F := fun w' => ∃ x', SkRep x'.S x'.C T' ∧ Has o w0 w' (SkOp b x' T' ob q')) ?_ n most hm hm9 ⟨T, q, x, m, hrun, hr, h⟩
  rintro c W ⟨T, q, x, m, hc, hr, h⟩
  unfold runB at hc
  by_cases hok : okB T q = true
  · rw [if_pos hok] at hc
    refine (step_all h hr (okB_ok hok) hT ho).mono ?_
    rintro e w' ⟨rfl, x', hr', h'⟩
    by_cases hd : (stepS T q).2.2 = true
    · rw [if_pos hd] at hc
      have e1 : (stepS T q).1 = T' := congrArg (fun r => r.1) (Option.some.inj hc)
      have e2 : (stepS T q).2.1 = q' := congrArg (fun r => r.2.1) (Option.some.inj hc)
      rw [e1, e2] at h'
      rw [e1] at hr'
      exact .inl ⟨by rw [hd], x', hr', h'⟩
    · rw [if_neg hd] at hc
      refine .inr ⟨by rw [Bool.not_eq_true] at hd; rw [hd], ?_⟩
      obtain ⟨⟨T2, q2, m2⟩, h2, h3⟩ := Option.map_eq_some_iff.1 hc
      cases c with
      | zero => cases h2
      | succ c =>
        have e1 : T2 = T' := congrArg (fun r => r.1) h3
        have e2 : q2 = q' := congrArg (fun r => r.2.1) h3
        subst e1 e2
        exact ⟨c, Nat.lt_succ_self c, _, _, x', m2, h2, hr', h'⟩
  · rw [if_neg hok] at hc; cases hc
end Go.Proofs.YtpckpgdkfimapaaDoor
