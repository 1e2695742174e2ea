/- Operations of four workers: what is asked for, and how many. Nothing is claimed of a program here. -/
import Derived.Test.YtpckpgdkfimapaaDoorSkipLaw2
namespace Go.Proofs.YtpckpgdkfimapaaDoor
open Go Go.RowKit
set_option linter.unusedVariables false

/-- Which of n things a number tells. -/
def pkI (z : Int) (n : Int) : Int := (if z < 0 then -(z + 1) else z) % n
theorem pkI_range (z : Int) {n : Int} (h : 0 < n) : 0 ≤ pkI z n ∧ pkI z n < n := by
  unfold pkI
  split <;> exact ⟨Int.emod_nonneg _ (by omega), Int.emod_lt_of_pos _ h⟩
def wkN (z : Int) : Nat := (pkI z 4).toNat
theorem wkN_lt (z : Int) : wkN z < 4 := by have := pkI_range z (n := 4) (by omega); unfold wkN; omega
theorem wkN_eq (z : Int) : (wkN z : Int) = pkI z 4 := by have := pkI_range z (n := 4) (by omega); unfold wkN; omega

/-- An operation that is asked for. -/
structure SAsk where
  wk : Int
  kind : Int
  key : ByteArray
  ref : Int
  height : Int
def SAsk.val (a : SAsk) : Value := .agg #[.int .i64 a.wk, .int .i64 a.kind, .string a.key, .int .i64 a.ref, .int .i64 a.height]
def SAsk.kd (a : SAsk) : Int := pkI a.kind 3
theorem SAsk.kd3 (a : SAsk) : a.kd = 0 ∨ a.kd = 1 ∨ a.kd = 2 := by have := pkI_range a.kind (n := 3) (by omega); unfold SAsk.kd; omega
/-- The operation that is begun. -/
def SAsk.op (a : SAsk) : ASop := if a.kd = 0 then .new 0 a.key a.key a.ref (hgt a.height) else if a.kd = 1 then .new 1 a.key a.key 0 0 else .new 2 a.key ⟨#[]⟩ 0 0

/-- How many of the asks from a place on are a worker's. -/
def cntF (p : Nat → Bool) : Nat → Nat → Nat
  | _, 0 => 0
  | i, k + 1 => (if p i = true then 1 else 0) + cntF p (i + 1) k
theorem cntF_le (p : Nat → Bool) (i k : Nat) : cntF p i k ≤ k := by
  induction k generalizing i with
  | zero => exact Nat.le_refl _
  | succ k ih => unfold cntF; have := ih (i + 1); split <;> omega
/-- A worker's asks that are not begun. -/
def unb (a : Nat → SAsk) (N w i : Nat) : Nat := cntF (fun j => decide (wkN (a j).wk = w)) i (N - i)
theorem unb_end (a : Nat → SAsk) (N w i : Nat) (h : N ≤ i) : unb a N w i = 0 := by
  unfold unb; rw [show N - i = 0 by omega]; rfl
theorem unb_skip (a : Nat → SAsk) (N w i : Nat) (h : i < N) (hw : wkN (a i).wk ≠ w) : unb a N w (i + 1) = unb a N w i := by
  unfold unb
  rw [show N - i = (N - (i + 1)) + 1 by omega]
  show _ = (if decide (wkN (a i).wk = w) = true then 1 else 0) + _
  rw [if_neg (by simpa using hw)]; omega
theorem unb_take (a : Nat → SAsk) (N w i : Nat) (h : i < N) (hw : wkN (a i).wk = w) : unb a N w (i + 1) + 1 = unb a N w i := by
  unfold unb
  rw [show N - i = (N - (i + 1)) + 1 by omega]
  show _ = (if decide (wkN (a i).wk = w) = true then 1 else 0) + _
  rw [if_pos (by simpa using hw)]; omega

/-- The sum over the four workers. -/
def sum4 (f : Nat → Nat) : Nat := f 0 + f 1 + f 2 + f 3
theorem cntF_four (f : Nat → Nat) (hf : ∀ j, f j < 4) (i k : Nat) : sum4 (fun w => cntF (fun j => decide (f j = w)) i k) = k := by
  induction k generalizing i with
  | zero => rfl
  | succ k ih =>
    have h9 := ih (i + 1)
    have step : ∀ w, cntF (fun j => decide (f j = w)) i (k + 1) = (if f i = w then 1 else 0) + cntF (fun j => decide (f j = w)) (i + 1) k := fun w => by
      show (if decide (f i = w) = true then 1 else 0) + _ = _
      simp only [decide_eq_true_eq]
    have hif : (if f i = 0 then 1 else 0) + (if f i = 1 then 1 else 0) + (if f i = 2 then 1 else 0) + (if f i = 3 then 1 else 0) = 1 := by
      have h := hf i
      rcases (by omega : f i = 0 ∨ f i = 1 ∨ f i = 2 ∨ f i = 3) with e | e | e | e <;> rw [e] <;> rfl
    unfold sum4 at h9 ⊢
    dsimp only at h9 ⊢
    rw [step 0, step 1, step 2, step 3]
    omega
theorem unb_four (a : Nat → SAsk) (N : Nat) : sum4 (fun w => unb a N w 0) = N := cntF_four (fun j => wkN (a j).wk) (fun j => wkN_lt _) 0 N
end Go.Proofs.YtpckpgdkfimapaaDoor
