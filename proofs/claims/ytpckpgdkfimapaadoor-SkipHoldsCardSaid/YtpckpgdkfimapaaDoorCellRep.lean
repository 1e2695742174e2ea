/- Words told plainly that lie in cells of an arena; what is taken, given back, stored. Plain lemmas: nothing is claimed of a program here. -/
import Derived.Test.YtpckpgdkfimapaaDoorRowN
import Derived.Test.YtpckpgdkfimapaaDoorOwn
namespace Go.Proofs.YtpckpgdkfimapaaDoor
open Go Go.RowKit
set_option linter.unusedVariables false

/-- An arena as a part. -/
def Part.arena (b : Nat) (S : Ar) : Part := ⟨fun w fp => ArenaAt w b fp S, fun h => h.fp_lt, fun h k hn => h.kept k hn⟩
theorem Has.own {o w0 w b S} (h : Has o w0 w (.arena b S)) : OwnF o w0 w b S := h
theorem Has.ofOwn {o w0 w b S} (h : OwnF o w0 w b S) : Has o w0 w (.arena b S) := h

theorem tab_nil : 0 ∉ ([] : List Nat) := by simp
theorem tab_out {w0 : World} {o : List Nat} (hT : TabAt w0) (ho : 0 ∉ o) {o' : List Nat} (h : ∀ y ∈ o', y ∈ o ∨ w0.heap.size ≤ y) : 0 ∉ o' := fun m => by
  rcases h _ m with h | h
  · exact ho h
  · have := hT.pos; omega

/-- An arena of the call's own. -/
theorem new_ar (w w1 : World) (k : Kept [] w w1) (n : Nat) (h0 : 1 ≤ n) (h1 : n ≤ 65536) :
    Calls Tryd.prog 22 #[.int .i64 n] w1 fun e w' => ∃ ab, e = .returned (.tuple #[.pointer (some ⟨ab, 0, none⟩), .int .i64 0]) ∧ Has [] w w' (.arena ab ⟨n, fun _ => none, 0⟩) := by
  refine (own_new k n (by omega) (by omega)).mono ?_
  rintro e w' ⟨ab, rfl, h⟩
  exact ⟨ab, rfl, Has.ofOwn h⟩

def cntB (p : Nat → Bool) : Nat → Nat
  | 0 => 0
  | n + 1 => cntB p n + if p n = true then 1 else 0

theorem cntB_le (p : Nat → Bool) (n : Nat) : cntB p n ≤ n := by
  induction n with
  | zero => exact Nat.le_refl _
  | succ n ih => unfold cntB; split <;> omega
theorem cntB_congr {p q : Nat → Bool} (n : Nat) (h : ∀ i, i < n → p i = q i) : cntB p n = cntB q n := by
  induction n with
  | zero => rfl
  | succ n ih => unfold cntB; rw [ih fun i hi => h i (by omega), h n (by omega)]
theorem cntB_one {p q : Nat → Bool} {n k : Nat} (hk : k < n) (hp : p k = true) (hq : q k = false) (h : ∀ i, i < n → i ≠ k → p i = q i) : cntB p n = cntB q n + 1 := by
  induction n with
  | zero => omega
  | succ n ih =>
    unfold cntB
    by_cases e : k = n
    · subst e
      rw [cntB_congr (q := q) k fun i hi => h i (by omega) (by omega), hp, hq]; simp
    · rw [ih (by omega) fun i hi hne => h i (by omega) hne, h n (by omega) fun e' => e e'.symm]; omega

/-- The least cell that is free. -/
theorem least_free (get : Nat → Option Int) (n : Nat) (h : cnt get n < n) : ∃ c, c < n ∧ get c = none ∧ ∀ d, d < c → (get d).isSome = true := by
  induction n with
  | zero => omega
  | succ n ih =>
    unfold cnt at h
    by_cases hc : cnt get n < n
    · obtain ⟨c, h1, h2, h3⟩ := ih hc
      exact ⟨c, by omega, h2, h3⟩
    · have hall : ∀ d, d < n → (get d).isSome = true := (cnt_full get n).1 (by have := cnt_le get n; omega)
      cases e : get n with
      | none => exact ⟨n, by omega, e, hall⟩
      | some v => rw [e] at h; simp at h; omega

/-- Words that lie in cells: which cell each has, and what stands there. -/
structure CRep {L : Type} (S : Ar) (of : L → Nat) (at_ : L → Option Int) (used : Nat) : Prop where
  has : ∀ l v, at_ l = some v → S.get (of l) = some v
  inj : ∀ l l', (at_ l).isSome → (at_ l').isSome → of l = of l' → l = l'
  lt : ∀ l v, at_ l = some v → of l < S.size
  count : cnt S.get S.size = used
  word : ∀ l v, at_ l = some v → 0 ≤ v ∧ v < 18446744073709551616

section
variable {L : Type} {S : Ar} {of : L → Nat} {at_ : L → Option Int} {used : Nat}

theorem CRep.step (h : CRep S of at_ used) : CRep S.step of at_ used := ⟨h.has, h.inj, h.lt, h.count, h.word⟩

theorem CRep.congr {of' : L → Nat} {at' : L → Option Int} (h : CRep S of at_ used) (e : ∀ l, at' l = at_ l) (e2 : ∀ l, of' l = of l) : CRep S of' at' used := by
  have h1 : at' = at_ := funext e
  have h2 : of' = of := funext e2
  rw [h1, h2]; exact h

theorem CRep.put [DecidableEq L] (h : CRep S of at_ used) {l : L} {u v : Int} (hl : at_ l = some u) (hv : 0 ≤ v ∧ v < 18446744073709551616) :
    CRep (S.put (of l) v) of (fun l' => if l' = l then some v else at_ l') used := by
  have isS : ∀ l', ((if l' = l then some v else at_ l') : Option Int).isSome = (at_ l').isSome := fun l' => by
    by_cases e : l' = l
    · rw [if_pos e, e, hl]; rfl
    · rw [if_neg e]
  refine ⟨fun l' v' h' => ?_, fun a b ha hb e => h.inj a b (by rw [← isS]; exact ha) (by rw [← isS]; exact hb) e, fun l' v' h' => ?_, ?_, fun l' v' h' => ?_⟩
  · show (if of l' = of l then some v else S.get (of l')) = some v'
    by_cases e : l' = l
    · rw [if_pos e] at h'; rw [e, if_pos rfl]; exact h'
    · rw [if_neg e] at h'
      rw [if_neg fun e2 => e (h.inj _ _ (by rw [h']; rfl) (by rw [hl]; rfl) e2)]
      exact h.has l' v' h'
  · by_cases e : l' = l
    · rw [e]; exact h.lt l u hl
    · simp only [if_neg e] at h'; exact h.lt l' v' h'
  · rw [← h.count]
    refine cnt_congr _ _ _ fun d _ => ?_
    show (if d = of l then some v else S.get d).isSome = _
    by_cases e : d = of l
    · rw [if_pos e, e, h.has l u hl]; rfl
    · rw [if_neg e]
  · by_cases e : l' = l
    · simp only [if_pos e, Option.some.injEq] at h'; subst h'; exact hv
    · simp only [if_neg e] at h'; exact h.word l' v' h'

theorem CRep.take [DecidableEq L] (h : CRep S of at_ used) {l : L} {c : Nat} {v : Int} (hc : c < S.size) (hg : S.get c = none) (hl : at_ l = none) (hv : 0 ≤ v ∧ v < 18446744073709551616) :
    CRep (S.put c v) (fun l' => if l' = l then c else of l') (fun l' => if l' = l then some v else at_ l') (used + 1) := by
  have hne : ∀ l' v', at_ l' = some v' → of l' ≠ c := fun l' v' h' e => by
    have := h.has l' v' h'
    rw [e, hg] at this; cases this
  refine ⟨fun l' v' h' => ?_, fun a b ha hb e => ?_, fun l' v' h' => ?_, ?_, fun l' v' h' => ?_⟩
  · show (if (if l' = l then c else of l') = c then some v else S.get (if l' = l then c else of l')) = some v'
    by_cases e : l' = l
    · simp only [if_pos e] at h' ⊢; exact h'
    · simp only [if_neg e] at h' ⊢
      rw [if_neg (hne l' v' h')]; exact h.has l' v' h'
  · by_cases ea : a = l
    · by_cases eb : b = l
      · rw [ea, eb]
      · simp only [if_pos ea, if_neg eb] at e hb
        obtain ⟨u, hu⟩ := Option.isSome_iff_exists.1 hb
        exact absurd e.symm (hne b u hu)
    · by_cases eb : b = l
      · simp only [if_pos eb, if_neg ea] at e ha
        obtain ⟨u, hu⟩ := Option.isSome_iff_exists.1 ha
        exact absurd e (hne a u hu)
      · simp only [if_neg ea, if_neg eb] at e ha hb
        exact h.inj a b ha hb e
  · by_cases e : l' = l
    · simp only [if_pos e]; exact hc
    · simp only [if_neg e] at h' ⊢; exact h.lt l' v' h'
  · show cnt (fun d => if d = c then some v else S.get d) S.size = _
    rw [cnt_set _ _ _ _ hc hg, h.count]
  · by_cases e : l' = l
    · simp only [if_pos e, Option.some.injEq] at h'; subst h'; exact hv
    · simp only [if_neg e] at h'; exact h.word l' v' h'

theorem CRep.drop [DecidableEq L] (h : CRep S of at_ used) {l : L} {u : Int} (hl : at_ l = some u) : CRep (S.drop (of l)) of (fun l' => if l' = l then none else at_ l') (used - 1) := by
  have key : ∀ l' v', (if l' = l then none else at_ l') = some v' → l' ≠ l ∧ at_ l' = some v' := fun l' v' h' => by
    by_cases e : l' = l
    · rw [if_pos e] at h'; cases h'
    · rw [if_neg e] at h'; exact ⟨e, h'⟩
  refine ⟨fun l' v' h' => ?_, fun a b ha hb e => ?_, fun l' v' h' => h.lt l' v' (key l' v' h').2, ?_, fun l' v' h' => h.word l' v' (key l' v' h').2⟩
  · obtain ⟨e, h2⟩ := key l' v' h'
    show (if of l' = of l then none else S.get (of l')) = some v'
    rw [if_neg fun e2 => e (h.inj _ _ (by rw [h2]; rfl) (by rw [hl]; rfl) e2)]
    exact h.has l' v' h2
  · obtain ⟨u1, h1⟩ := Option.isSome_iff_exists.1 ha
    obtain ⟨u2, h2⟩ := Option.isSome_iff_exists.1 hb
    exact h.inj a b (by rw [(key _ _ h1).2]; rfl) (by rw [(key _ _ h2).2]; rfl) e
  · show cnt (fun d => if d = of l then none else S.get d) S.size = _
    have := cnt_free S.get (of l) S.size (h.lt l u hl) (by rw [h.has l u hl]; rfl)
    rw [h.count] at this
    omega
end
end Go.Proofs.YtpckpgdkfimapaaDoor
