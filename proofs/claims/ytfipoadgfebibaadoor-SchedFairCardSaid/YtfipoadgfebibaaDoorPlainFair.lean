/- In turns each worker comes in each window; all picks that fit are among them, in their order. Plain lemmas: nothing is claimed of a program here. -/
import Derived.Test.YtfipoadgfebibaaDoorPlainTurns
namespace Go.Proofs.YtfipoadgfebibaaDoor
open Go Go.RowKit
set_option linter.unusedVariables false

/-- How long each has waited behind a list of those who came. -/
def wOf (l : List Int) : Nat → Nat := l.foldl (fun ws q k => if (k : Int) = q then 0 else ws k + 1) (fun _ => 0)

theorem wOf_nil : wOf [] = fun _ => 0 := rfl
theorem wOf_snoc (l : List Int) (q : Int) : wOf (l ++ [q]) = fun k : Nat => if (k : Int) = q then 0 else wOf l k + 1 := by
  unfold wOf
  rw [List.foldl_append]
  rfl

theorem wOf_le (l : List Int) (i k : Nat) (hi : i ≤ l.length) : wOf (l.take i) k ≤ i := by
  induction i with
  | zero => simp [wOf_nil]
  | succ i ih =>
    have e : l.take (i + 1) = l.take i ++ [l[i]'(by omega)] := by rw [List.take_add_one, List.getElem?_eq_getElem (by omega)]; rfl
    rw [e, wOf_snoc]
    have := ih (by omega)
    show (if (k : Int) = l[i]'(by omega) then 0 else wOf (l.take i) k + 1) ≤ i + 1
    split <;> omega

/-- Nobody waits W, and all are workers. -/
structure Okay (n W : Nat) (l : List Int) : Prop where
  who : ∀ x ∈ l, 0 ≤ x ∧ x < n
  wait : ∀ j, j < l.length → ∀ k, k < n → (k : Int) ≠ l.getD j 0 → wOf (l.take j) k + 1 < W

theorem Okay.nil (n W : Nat) : Okay n W [] := ⟨fun x hx => by simp at hx, fun j hj => by simp at hj⟩

theorem Okay.snoc {n W : Nat} {l : List Int} (h : Okay n W l) {q : Nat} (hq : q < n) (hw : ∀ k, k < n → k ≠ q → wOf l k + 1 < W) : Okay n W (l ++ [(q : Int)]) := by
  refine ⟨fun x hx => ?_, fun j hj k hk hne => ?_⟩
  · rcases List.mem_append.1 hx with hx | hx
    · exact h.who x hx
    · have := List.mem_singleton.1 hx; omega
  · rw [List.length_append] at hj
    simp only [List.length_cons, List.length_nil] at hj
    by_cases e : j < l.length
    · rw [List.take_append_of_le_length (by omega)]
      refine h.wait j e k hk ?_
      rw [List.getD_eq_getElem?_getD, List.getElem?_append_left e] at hne
      rwa [List.getD_eq_getElem?_getD]
    · obtain rfl : j = l.length := by omega
      rw [List.take_left]
      refine hw k hk fun e => hne ?_
      rw [List.getD_eq_getElem?_getD, List.getElem?_append_right (Nat.le_refl _)]
      simp [e]

/-- What stands inside the filling. -/
structure FairI (n W T : Nat) (pre : List Int) (t : Nat) (s : TS) : Prop where
  ws : s.ws = wOf s.out
  ok : Okay n W s.out
  le : ∀ k, k < n → s.ws k ≤ T + t
  ext : ∃ e, s.out = pre ++ e

theorem come_ws {s : TS} (h : s.ws = wOf s.out) (q : Nat) : (s.come q).ws = wOf (s.come q).out := by
  show (fun k : Nat => if k = q then 0 else s.ws k + 1) = wOf (s.out ++ [(q : Int)])
  rw [wOf_snoc, ← h]
  funext k
  by_cases e : k = q
  · rw [if_pos e, if_pos (by omega)]
  · rw [if_neg e, if_neg (by omega)]

theorem turns_fair {n W T : Nat} (hn : 1 ≤ n) (hW : W = n + T) (hT : n ≤ T) (z : Nat → Int) (k : Nat) :
    FairI n W T [] 0 (turnsS n T z k) ∧ (((List.range k).map z).filter fun x : Int => decide (0 ≤ x ∧ x < (n : Int))).Sublist (turnsS n T z k).out := by
  induction k with
  | zero => exact ⟨⟨rfl, Okay.nil n W, fun k hk => Nat.zero_le _, ⟨[], rfl⟩⟩, List.Sublist.refl _⟩
  | succ k ih =>
    obtain ⟨hI, hS⟩ := ih
    rw [List.range_succ, List.map_append, List.filter_append, turnsS, pickS]
    by_cases hz : 0 ≤ z k ∧ z k < n
    · rw [if_pos hz]
      obtain ⟨p, hp⟩ := Int.eq_ofNat_of_zero_le hz.1
      have hpn : p < n := by omega
      obtain ⟨t, s, ht, he, hb, hI2, hl⟩ := fill_ind hn hT (FairI n W T (turnsS n T z k).out) (turnsS n T z k) ⟨hI.ws, hI.ok, hI.le, ⟨[], by simp⟩⟩ (fun t s htn hc h hnb => by
        have hq := bestTo_lt s.ws n hn
        have hqw : t ≤ s.ws (bestTo s.ws n) := by omega
        have hc2 := cov_step hc hq hqw
        refine ⟨come_ws h.ws _, h.ok.snoc hq fun k hk hne => ?_, fun k hk => ?_, ?_⟩
        · rw [← h.ws]
          have h1 := h.le k hk
          by_cases e : t + 1 < n
          · omega
          · have e1 : t + 1 = n := by omega
            rw [e1] at hc2
            have h2 := cov_full hc2 k hk
            simp only [if_neg hne] at h2
            omega
        · show (if k = bestTo s.ws n then 0 else s.ws k + 1) ≤ _
          have h1 := h.le k hk
          split <;> omega
        · obtain ⟨e, he⟩ := h.ext
          exact ⟨e ++ [((bestTo s.ws n : Nat) : Int)], by show s.out ++ _ = _; rw [he, List.append_assoc]⟩)
      rw [he, hp, Int.toNat_natCast]
      have hlow : ∀ k, k < n → s.ws k < T := fun k hk => by have := bestTo_max s.ws n k hk; omega
      refine ⟨⟨come_ws hI2.ws p, hI2.ok.snoc hpn fun k hk hne => ?_, fun k hk => ?_, ⟨_, rfl⟩⟩, ?_⟩
      · rw [← hI2.ws]; have := hlow k hk; omega
      · show (if k = p then 0 else s.ws k + 1) ≤ _
        have := hlow k hk
        split <;> omega
      · show (_ : List Int).Sublist (s.out ++ [(p : Int)])
        refine List.Sublist.append ?_ ?_
        · obtain ⟨e, he2⟩ := hI2.ext
          rw [he2]
          exact hS.trans (List.sublist_append_left _ _)
        · rw [List.map_singleton, hp]
          exact List.filter_sublist
    · rw [if_neg hz]
      have e : (([k].map z).filter fun x : Int => decide (0 ≤ x ∧ x < (n : Int))) = [] := by
        rw [List.map_singleton]
        simp only [List.filter_cons, List.filter_nil]
        rw [if_neg (by simpa using hz)]
      rw [e, List.append_nil]
      exact ⟨hI, hS⟩

/-- The picks that fit, from the i-th on. -/
def restP (n m : Nat) (z : Nat → Int) (i : Nat) : List Int := (((List.range m).map z).drop i).filter fun x : Int => decide (0 ≤ x ∧ x < (n : Int))

theorem restP_take {n m : Nat} {z : Nat → Int} {i : Nat} (hi : i < m) (h : 0 ≤ z i ∧ z i < n) : restP n m z i = z i :: restP n m z (i + 1) := by
  unfold restP
  rw [List.drop_eq_getElem_cons (by simpa using hi), List.filter_cons]
  rw [if_pos (by simpa using h)]
  simp

theorem restP_skip {n m : Nat} {z : Nat → Int} {i : Nat} (hi : i < m) (h : ¬ (0 ≤ z i ∧ z i < n)) : restP n m z i = restP n m z (i + 1) := by
  unfold restP
  rw [List.drop_eq_getElem_cons (by simpa using hi), List.filter_cons]
  rw [if_neg (by simpa using h)]

theorem sub_pass {p : Int} {r l : List Int} {a : Nat} (h : (p :: r).Sublist (l.drop a)) : a < l.length ∧ (l.getD a 0 ≠ p → (p :: r).Sublist (l.drop (a + 1))) ∧ (l.getD a 0 = p → r.Sublist (l.drop (a + 1))) := by
  have ha : a < l.length := by
    by_cases ha : a < l.length
    · exact ha
    · rw [List.drop_eq_nil_of_le (by omega)] at h
      cases h
  rw [List.drop_eq_getElem_cons ha] at h
  have e : l.getD a 0 = l[a] := by rw [List.getD_eq_getElem?_getD, List.getElem?_eq_getElem ha]; rfl
  rw [e]
  refine ⟨ha, fun hne => ?_, fun he => ?_⟩
  · cases h with
    | cons _ h => exact h
    | cons_cons _ h => exact absurd rfl hne
  · rw [he] at h
    exact List.cons_sublist_cons.1 h
end Go.Proofs.YtfipoadgfebibaaDoor
