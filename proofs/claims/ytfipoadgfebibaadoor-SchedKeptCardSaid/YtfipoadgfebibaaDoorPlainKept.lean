/- Picks that go round stay as they are. Plain lemmas: nothing is claimed of a program here. -/
import Derived.Test.YtfipoadgfebibaaDoorPlainTurns
namespace Go.Proofs.YtfipoadgfebibaaDoor
open Go Go.RowKit
set_option linter.unusedVariables false

/-- The first k picks of rounds of n. -/
def RR (n k : Nat) : List Int := (List.range k).map fun j => ((j % n : Nat) : Int)

theorem RR_len (n k : Nat) : (RR n k).length = k := by simp [RR]
theorem RR_snoc (n i j : Nat) (hj : j < n) : RR n (i * n + (j + 1)) = RR n (i * n + j) ++ [(j : Int)] := by
  unfold RR
  rw [← Nat.add_assoc, List.range_succ, List.map_append]
  congr 1
  have e : (i * n + j) % n = j := by rw [Nat.mul_comm, Nat.mul_add_mod]; exact Nat.mod_eq_of_lt hj
  simp only [List.map_cons, List.map_nil, e]

theorem RR_get (n k i j : Nat) (hj : j < n) (h : i * n + j < k) : (RR n k).getD (i * n + j) 0 = (j : Int) := by
  unfold RR
  have e : (i * n + j) % n = j := by rw [Nat.mul_comm, Nat.mul_add_mod]; exact Nat.mod_eq_of_lt hj
  rw [List.getD_eq_getElem?_getD, List.getElem?_map, List.getElem?_range h]
  show (((i * n + j) % n : Nat) : Int) = (j : Int)
  rw [e]

/-- How long each has waited, a rounds and b picks on. -/
def waitRR (n a b w : Nat) : Nat := if w < b then b - 1 - w else if a = 0 then b else n + b - 1 - w

theorem waitRR_lt {n a b w : Nat} (hw : w < n) (hb : b < n) : waitRR n a b w < n := by
  unfold waitRR
  split
  · omega
  · split <;> omega

theorem waitRR_step {n a b w : Nat} (hw : w < n) (hb : b < n) : (if w = b then 0 else waitRR n a b w + 1) = waitRR n a (b + 1) w := by
  unfold waitRR
  by_cases e : w = b
  · rw [if_pos e, if_pos (by omega)]; omega
  · rw [if_neg e]
    by_cases h : w < b
    · rw [if_pos h, if_pos (show w < b + 1 by omega)]; omega
    · rw [if_neg h, if_neg (show ¬ w < b + 1 by omega)]
      by_cases ha : a = 0
      · rw [if_pos ha, if_pos ha]
      · rw [if_neg ha, if_neg ha]; omega

theorem waitRR_turn {n a w : Nat} (hw : w < n) : waitRR n a n w = waitRR n (a + 1) 0 w := by
  unfold waitRR
  rw [if_pos hw, if_neg (by omega), if_neg (by omega)]
  omega

theorem kept_step {n T r : Nat} (hn : 1 ≤ n) (hT : n ≤ T) (a b : Nat) (hb : b < n) (hr : a * n + b < r * n) (h : (turnsS n T (fun k => (RR n (r * n)).getD k 0) (a * n + b)).out = RR n (a * n + b) ∧ ∀ w, w < n → (turnsS n T (fun k => (RR n (r * n)).getD k 0) (a * n + b)).ws w = waitRR n a b w) :
    (turnsS n T (fun k => (RR n (r * n)).getD k 0) (a * n + (b + 1))).out = RR n (a * n + (b + 1)) ∧ ∀ w, w < n → (turnsS n T (fun k => (RR n (r * n)).getD k 0) (a * n + (b + 1))).ws w = waitRR n a (b + 1) w := by
  obtain ⟨h1, h2⟩ := h
  rw [← Nat.add_assoc, turnsS, pickS]
  have hz : (RR n (r * n)).getD (a * n + b) 0 = (b : Int) := RR_get n _ a b hb hr
  rw [hz, if_pos ⟨by omega, by omega⟩, Int.toNat_natCast]
  generalize turnsS n T (fun k => (RR n (r * n)).getD k 0) (a * n + b) = s at *
  have hbest := bestTo_lt s.ws n hn
  rw [fillS_done (by rw [h2 _ hbest]; have := waitRR_lt (a := a) hbest hb; omega)]
  refine ⟨?_, fun w hw => ?_⟩
  · show s.out ++ [(b : Int)] = _
    rw [h1, Nat.add_assoc, RR_snoc n a b hb]
  · show (if w = b then 0 else s.ws w + 1) = _
    rw [h2 w hw, waitRR_step hw hb]

theorem kept_turns {n T r : Nat} (hn : 1 ≤ n) (hT : n ≤ T) : ∀ a b, b ≤ n → a * n + b ≤ r * n →
    (turnsS n T (fun k => (RR n (r * n)).getD k 0) (a * n + b)).out = RR n (a * n + b) ∧ ∀ w, w < n → (turnsS n T (fun k => (RR n (r * n)).getD k 0) (a * n + b)).ws w = waitRR n a b w := by
  intro a
  induction a with
  | zero =>
    intro b
    induction b with
    | zero =>
      intro _ _
      refine ⟨by simp [turnsS, RR], fun w hw => ?_⟩
      simp [turnsS, waitRR]
    | succ b ih =>
      intro hb hr
      exact kept_step hn hT 0 b (by omega) (by omega) (ih (by omega) (by omega))
  | succ a iha =>
    intro b
    induction b with
    | zero =>
      intro _ hr
      have e : (a + 1) * n + 0 = a * n + n := by rw [Nat.succ_mul]; omega
      obtain ⟨h1, h2⟩ := iha n (Nat.le_refl _) (by omega)
      rw [e]
      exact ⟨h1, fun w hw => by rw [h2 w hw, waitRR_turn hw]⟩
    | succ b ih =>
      intro hb hr
      exact kept_step hn hT (a + 1) b (by omega) (by omega) (ih (by omega) (by omega))
end Go.Proofs.YtfipoadgfebibaaDoor
