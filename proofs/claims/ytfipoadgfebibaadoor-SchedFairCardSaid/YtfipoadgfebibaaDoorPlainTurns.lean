/- How picks are made fair, told plainly. Plain lemmas: nothing is claimed of a program here. -/
import Derived.Test.YtfipoadgfebibaaDoorPlainApart
namespace Go.Proofs.YtfipoadgfebibaaDoor
open Go Go.RowKit
set_option linter.unusedVariables false

/-- The first of the first n whose number is greatest. -/
def bestTo (ws : Nat → Nat) : Nat → Nat
  | 0 => 0
  | k + 1 => if ws (bestTo ws k) < ws k then k else bestTo ws k

theorem bestTo_lt (ws : Nat → Nat) (n : Nat) (h : 1 ≤ n) : bestTo ws n < n := by
  induction n with
  | zero => omega
  | succ n ih =>
    unfold bestTo
    by_cases e : n = 0
    · subst e; simp [bestTo]
    · split
      · omega
      · have := ih (by omega); omega

theorem bestTo_max (ws : Nat → Nat) (n k : Nat) (h : k < n) : ws k ≤ ws (bestTo ws n) := by
  induction n with
  | zero => omega
  | succ n ih =>
    unfold bestTo
    by_cases e : k = n
    · subst e
      split
      · exact Nat.le_refl _
      · omega
    · have := ih (by omega)
      split
      · omega
      · exact this

theorem bestTo_first (ws : Nat → Nat) (n k : Nat) (h : k < bestTo ws n) : ws k < ws (bestTo ws n) := by
  induction n with
  | zero => simp [bestTo] at h
  | succ n ih =>
    unfold bestTo at h ⊢
    split at h
    · rename_i hc
      rw [if_pos hc]
      have := bestTo_max ws n k h
      omega
    · rename_i hc
      rw [if_neg hc]
      exact ih h

/-- How long each has waited, and who has come. -/
structure TS where
  ws : Nat → Nat
  out : List Int

def TS.come (s : TS) (q : Nat) : TS := ⟨fun k => if k = q then 0 else s.ws k + 1, s.out ++ [(q : Int)]⟩

theorem TS.come_len (s : TS) (q : Nat) : (s.come q).out.length = s.out.length + 1 := by simp [TS.come]

def fillS (n T : Nat) : Nat → TS → TS
  | 0, s => s
  | f + 1, s => if s.ws (bestTo s.ws n) < T then s else fillS n T f (s.come (bestTo s.ws n))

def pickS (n T : Nat) (s : TS) (p : Int) : TS := if 0 ≤ p ∧ p < n then (fillS n T n s).come p.toNat else s

def turnsS (n T : Nat) (z : Nat → Int) : Nat → TS
  | 0 => ⟨fun _ => 0, []⟩
  | k + 1 => pickS n T (turnsS n T z k) (z k)

/-- At least t of the n have waited less than t. -/
def Cov (n t : Nat) (ws : Nat → Nat) : Prop := t ≤ sumTo (fun k => if ws k < t then 1 else 0) n

theorem cov_zero (n : Nat) (ws : Nat → Nat) : Cov n 0 ws := Nat.zero_le _

theorem cov_full {n : Nat} {ws : Nat → Nat} (h : Cov n n ws) : ∀ k, k < n → ws k < n := by
  have gen : ∀ m : Nat, m ≤ sumTo (fun k => if ws k < n then 1 else 0) m → ∀ k, k < m → ws k < n := by
    intro m
    induction m with
    | zero => intro _ k hk; omega
    | succ m ih =>
      intro hm k hk
      unfold sumTo at hm
      have hle : sumTo (fun k => if ws k < n then 1 else 0) m ≤ m * 1 := sumTo_le fun i _ => by split <;> omega
      by_cases hw : ws m < n
      · rw [if_pos hw] at hm
        by_cases e : k = m
        · subst e; exact hw
        · exact ih (by omega) k (by omega)
      · rw [if_neg hw] at hm
        omega
  exact gen n h

theorem cov_step {n t q : Nat} {ws : Nat → Nat} (h : Cov n t ws) (hq : q < n) (ht : t ≤ ws q) : Cov n (t + 1) (fun k => if k = q then 0 else ws k + 1) := by
  unfold Cov
  rw [sumTo_bump (f := fun k => if ws k < t then 1 else 0) hq fun k => ?_]
  · have : t ≤ _ := h
    omega
  · by_cases e : k = q
    · subst e
      rw [if_pos (by simp), if_neg (by omega), if_pos rfl]
    · simp only [if_neg e]
      by_cases hw : ws k < t
      · rw [if_pos hw, if_pos (by omega)]
      · rw [if_neg hw, if_neg (by omega)]

/-- Where all have waited less than T nothing is filled in. -/
theorem fillS_done {n T f : Nat} {s : TS} (h : s.ws (bestTo s.ws n) < T) : fillS n T f s = s := by
  cases f with
  | zero => rfl
  | succ f => unfold fillS; rw [if_pos h]

theorem fillS_go {n T f : Nat} {s : TS} (h : ¬ s.ws (bestTo s.ws n) < T) : fillS n T (f + 1) s = fillS n T f (s.come (bestTo s.ws n)) := by
  rw [fillS, if_neg h]

/-- What stands inside the filling: t have been put in. -/
structure FillInv (n T : Nat) (s0 : TS) (t : Nat) (s : TS) : Prop where
  le : t ≤ n
  same : fillS n T n s0 = fillS n T (n - t) s
  cov : Cov n t s.ws
  len : s.out.length = s0.out.length + t

theorem FillInv.start (n T : Nat) (s0 : TS) : FillInv n T s0 0 s0 := ⟨Nat.zero_le _, rfl, cov_zero _ _, rfl⟩

theorem FillInv.lt {n T : Nat} {s0 : TS} {t : Nat} {s : TS} (h : FillInv n T s0 t s) (hn : 1 ≤ n) (hT : n ≤ T) (hb : ¬ s.ws (bestTo s.ws n) < T) : t < n := by
  refine Nat.lt_of_le_of_ne h.le fun e => ?_
  subst e
  have := cov_full h.cov _ (bestTo_lt s.ws t hn)
  omega

theorem FillInv.step {n T : Nat} {s0 : TS} {t : Nat} {s : TS} (h : FillInv n T s0 t s) (hn : 1 ≤ n) (hT : n ≤ T) (hb : ¬ s.ws (bestTo s.ws n) < T) : FillInv n T s0 (t + 1) (s.come (bestTo s.ws n)) := by
  have hlt := h.lt hn hT hb
  refine ⟨hlt, ?_, cov_step h.cov (bestTo_lt _ _ hn) (by omega), by rw [TS.come_len, h.len]; omega⟩
  rw [h.same]
  obtain ⟨f, hf⟩ : ∃ f, n - t = f + 1 := ⟨n - t - 1, by omega⟩
  rw [hf, fillS_go hb, show n - (t + 1) = f by omega]

theorem FillInv.stop {n T : Nat} {s0 : TS} {t : Nat} {s : TS} (h : FillInv n T s0 t s) (hb : s.ws (bestTo s.ws n) < T) : fillS n T n s0 = s := by rw [h.same, fillS_done hb]

/-- Whatever holds ahead of the filling and is kept by each step holds behind it, where nobody has waited T. -/
theorem fill_ind {n T : Nat} (hn : 1 ≤ n) (hT : n ≤ T) (I : Nat → TS → Prop) (s0 : TS) (h0 : I 0 s0)
    (hs : ∀ t s, t < n → Cov n t s.ws → I t s → ¬ s.ws (bestTo s.ws n) < T → I (t + 1) (s.come (bestTo s.ws n))) :
    ∃ t s, t ≤ n ∧ fillS n T n s0 = s ∧ s.ws (bestTo s.ws n) < T ∧ I t s ∧ s.out.length = s0.out.length + t := by
  have gen : ∀ f t s, FillInv n T s0 t s → I t s → n - t = f → ∃ t s, t ≤ n ∧ fillS n T n s0 = s ∧ s.ws (bestTo s.ws n) < T ∧ I t s ∧ s.out.length = s0.out.length + t := by
    intro f
    induction f with
    | zero =>
      intro t s h hI he
      by_cases hb : s.ws (bestTo s.ws n) < T
      · exact ⟨t, s, h.le, h.stop hb, hb, hI, h.len⟩
      · have := h.lt hn hT hb; omega
    | succ f ih =>
      intro t s h hI he
      by_cases hb : s.ws (bestTo s.ws n) < T
      · exact ⟨t, s, h.le, h.stop hb, hb, hI, h.len⟩
      · exact ih (t + 1) _ (h.step hn hT hb) (hs t s (h.lt hn hT hb) h.cov hI hb) (by omega)
  exact gen n 0 s0 (FillInv.start n T s0) h0 (by omega)

theorem turnsS_len {n T : Nat} (hn : 1 ≤ n) (hT : n ≤ T) (z : Nat → Int) (k : Nat) : (turnsS n T z k).out.length ≤ k * (n + 1) := by
  induction k with
  | zero => simp [turnsS]
  | succ k ih =>
    rw [turnsS, pickS, Nat.succ_mul]
    split
    · obtain ⟨t, s, ht, he, _, _, hl⟩ := fill_ind hn hT (fun _ _ => True) (turnsS n T z k) trivial (fun _ _ _ _ _ _ => trivial)
      rw [he]
      rw [TS.come_len, hl]
      omega
    · omega

/-- A worker has waited no longer than all that came. -/
def TS.Fit (n : Nat) (s : TS) : Prop := ∀ k, k < n → s.ws k ≤ s.out.length

theorem TS.Fit.come {n : Nat} {s : TS} (h : s.Fit n) (q : Nat) : (s.come q).Fit n := by
  intro k hk
  show (if k = q then 0 else s.ws k + 1) ≤ (s.out ++ [(q : Int)]).length
  rw [List.length_append]
  simp only [List.length_cons, List.length_nil]
  have := h k hk
  split <;> omega

theorem bestTo_one (ws : Nat → Nat) : bestTo ws 1 = 0 := by
  unfold bestTo
  simp [bestTo]

theorem turnsS_fit {n T : Nat} (hn : 1 ≤ n) (hT : n ≤ T) (z : Nat → Int) (k : Nat) : (turnsS n T z k).Fit n := by
  induction k with
  | zero => intro j _; exact Nat.zero_le _
  | succ k ih =>
    rw [turnsS, pickS]
    split
    · obtain ⟨t, s, ht, he, _, hI, hl⟩ := fill_ind hn hT (fun _ s => s.Fit n) (turnsS n T z k) ih (fun _ s _ _ h _ => h.come _)
      rw [he]
      exact hI.come _
    · exact ih

theorem pick_skip {n T : Nat} {z : Nat → Int} {k : Nat} (h : ¬ (0 ≤ z k ∧ z k < n)) : turnsS n T z (k + 1) = turnsS n T z k := by
  rw [turnsS, pickS, if_neg h]

theorem pick_take {n T : Nat} {z : Nat → Int} {k p t : Nat} {s : TS} (hz : z k = p) (hp : p < n) (hf : FillInv n T (turnsS n T z k) t s) (hb : s.ws (bestTo s.ws n) < T) : turnsS n T z (k + 1) = s.come p := by
  rw [turnsS, pickS, if_pos ⟨by omega, by omega⟩, hf.stop hb, hz, Int.toNat_natCast]

end Go.Proofs.YtfipoadgfebibaaDoor
