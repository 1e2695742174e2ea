/- Of programs that add one to one cell, each sum comes out once. Plain lemmas: nothing is claimed of a program here. -/
import Derived.Test.YtfipoadgfebibaaDoorPlainApart
namespace Go.Proofs.YtfipoadgfebibaaDoor
open Go Go.RowKit
set_option linter.unusedVariables false

def addOne : OpV := ⟨4, 0, 1, 0⟩

variable {n : Nat} {L : Nat → Nat} {P : Nat → Nat → OpV} {z : Nat → Int}

/-- What stands behind k picks. -/
structure CountInv (n : Nat) (st : Ar × (Nat → List Int) × Nat) : Prop where
  cell : st.1.get 0 = some (st.2.2 : Int)
  pos : ∀ i, i < n → ∀ x ∈ st.2.1 i, 1 ≤ x ∧ x ≤ st.2.2
  up : ∀ i, i < n → (st.2.1 i).Pairwise (· < ·)
  apart : ∀ i j, i < n → j < n → i ≠ j → ∀ x ∈ st.2.1 i, x ∉ st.2.1 j

theorem runS_counts (hP : ∀ i, i < n → ∀ k, k < L i → P i k = addOne) (k : Nat) (hk : sumTo L n ≤ 100000) : CountInv n (runS n L P (allTaken 1) z k) := by
  induction k with
  | zero => exact ⟨rfl, fun i hi x hx => by simp [runS] at hx, fun i hi => by simp [runS], fun i j hi hj hne x hx => by simp [runS] at hx⟩
  | succ k ih =>
    have hm := runS_many (n := n) (L := L) (P := P) (S0 := allTaken 1) (z := z) k
    have hinv := runS_inv n L P (allTaken 1) z k
    have hle : (runS n L P (allTaken 1) z k).2.2 ≤ 100000 := by
      rw [hm]
      refine Nat.le_trans ?_ hk
      clear hk ih hm
      have : ∀ m, m ≤ n → sumTo (fun i => ((runS n L P (allTaken 1) z k).2.1 i).length) m ≤ sumTo L m := by
        intro m hm
        induction m with
        | zero => exact Nat.le_refl _
        | succ m ih =>
          unfold sumTo
          have := ih (by omega)
          have := hinv.len m (by omega)
          omega
      exact this n (Nat.le_refl _)
    rcases runS_cases n L P (allTaken 1) z k with ⟨h1, h2⟩ | ⟨j, hj, hjn, hjl, h1⟩
    · rw [h1]; exact ih
    · rw [h1, hP j hjn _ hjl]
      generalize runS n L P (allTaken 1) z k = st at *
      have hd : doS st.1 addOne.k addOne.c addOne.x addOne.y = ((st.2.2 : Int) + 1, 0, st.1.step.put 0 ((st.2.2 : Int) + 1)) := by
        unfold doS addOne
        dsimp only
        rw [if_pos (by simp), if_pos (by omega)]
        have := ih.cell
        simp only [Int.toNat_zero, this]
        have e : IntKind.u64.wrap ((st.2.2 : Int) + 1) = (st.2.2 : Int) + 1 := by
          unfold IntKind.wrap
          simp [IntKind.bits, IntKind.signed]
          omega
        simp [e]
      rw [hd]
      refine ⟨?_, ?_, ?_, ?_⟩
      · show (if (0 : Nat) = 0 then some ((st.2.2 : Int) + 1) else st.1.get 0) = some (((st.2.2 + 1 : Nat)) : Int)
        rw [if_pos rfl]; simp
      · intro i hi x hx
        replace hx : x ∈ updF st.2.1 j (st.2.1 j ++ [(st.2.2 : Int) + 1]) i := hx
        unfold updF at hx
        show 1 ≤ x ∧ x ≤ ((st.2.2 + 1 : Nat) : Int)
        by_cases e : i = j
        · rw [if_pos e] at hx
          rcases List.mem_append.1 hx with hx | hx
          · have := ih.pos j hjn x hx; omega
          · have := List.mem_singleton.1 hx; omega
        · rw [if_neg e] at hx
          have := ih.pos i hi x hx; omega
      · intro i hi
        show (updF st.2.1 j (st.2.1 j ++ [(st.2.2 : Int) + 1]) i).Pairwise (· < ·)
        unfold updF
        by_cases e : i = j
        · rw [if_pos e]
          rw [List.pairwise_append]
          refine ⟨ih.up j hjn, List.pairwise_singleton _ _, fun a ha b hb => ?_⟩
          have := List.mem_singleton.1 hb
          have := (ih.pos j hjn a ha).2
          omega
        · rw [if_neg e]; exact ih.up i hi
      · intro a b ha hb hne x hx hx'
        replace hx : x ∈ updF st.2.1 j (st.2.1 j ++ [(st.2.2 : Int) + 1]) a := hx
        replace hx' : x ∈ updF st.2.1 j (st.2.1 j ++ [(st.2.2 : Int) + 1]) b := hx'
        unfold updF at hx hx'
        by_cases ea : a = j
        · have eb : b ≠ j := by omega
          rw [if_pos ea] at hx
          rw [if_neg eb] at hx'
          rcases List.mem_append.1 hx with hx | hx
          · exact ih.apart j b hjn hb (by omega) x hx hx'
          · have := List.mem_singleton.1 hx
            have := (ih.pos b hb x hx').2
            omega
        · rw [if_neg ea] at hx
          by_cases eb : b = j
          · rw [if_pos eb] at hx'
            rcases List.mem_append.1 hx' with hx' | hx'
            · exact ih.apart a j ha hjn ea x hx hx'
            · have := List.mem_singleton.1 hx'
              have := (ih.pos a ha x hx).2
              omega
          · rw [if_neg eb] at hx'
            exact ih.apart a b ha hb hne x hx hx'

/-- What has been looked at behind j entries of row i. -/
def Seen (outs : Nat → List Int) (i j : Nat) (v : Int) : Prop := ∃ a, (a < i ∧ v ∈ outs a) ∨ (a = i ∧ v ∈ (outs i).take j)

theorem seen_fresh {st : Ar × (Nat → List Int) × Nat} (h : CountInv n st) {i j : Nat} (hi : i < n) (hj : j < (st.2.1 i).length) : ¬ Seen st.2.1 i j ((st.2.1 i).getD j 0) := by
  have hm : (st.2.1 i).getD j 0 ∈ st.2.1 i := by
    rw [List.getD_eq_getElem?_getD, List.getElem?_eq_getElem hj]; exact List.getElem_mem hj
  rintro ⟨a, ⟨ha, hv⟩ | ⟨rfl, hv⟩⟩
  · exact h.apart i a hi (by omega) (by omega) _ hm hv
  · obtain ⟨k, hk, e⟩ := List.mem_iff_getElem.1 hv
    rw [List.length_take] at hk
    rw [List.getElem_take] at e
    have hp := List.pairwise_iff_getElem.1 (h.up a hi) k j (by omega) hj (by omega)
    rw [List.getD_eq_getElem?_getD, List.getElem?_eq_getElem hj] at e
    simp only [Option.getD_some] at e
    omega

theorem seen_step (outs : Nat → List Int) (i j : Nat) (v : Int) (hj : j < (outs i).length) : Seen outs i (j + 1) v ↔ Seen outs i j v ∨ v = (outs i).getD j 0 := by
  have e : (outs i).take (j + 1) = (outs i).take j ++ [(outs i).getD j 0] := by
    rw [List.take_add_one, List.getD_eq_getElem?_getD, List.getElem?_eq_getElem hj]; rfl
  unfold Seen
  rw [e]
  constructor
  · rintro ⟨a, ⟨ha, hv⟩ | ⟨rfl, hv⟩⟩
    · exact .inl ⟨a, .inl ⟨ha, hv⟩⟩
    · rcases List.mem_append.1 hv with hv | hv
      · exact .inl ⟨a, .inr ⟨rfl, hv⟩⟩
      · exact .inr (List.mem_singleton.1 hv)
  · rintro (⟨a, ⟨ha, hv⟩ | ⟨rfl, hv⟩⟩ | hv)
    · exact ⟨a, .inl ⟨ha, hv⟩⟩
    · exact ⟨a, .inr ⟨rfl, by simp [hv]⟩⟩
    · exact ⟨i, .inr ⟨rfl, by simp [hv]⟩⟩

theorem seen_row (outs : Nat → List Int) (i : Nat) (v : Int) : Seen outs (i + 1) 0 v ↔ Seen outs i (outs i).length v := by
  unfold Seen
  rw [List.take_length]
  constructor
  · rintro ⟨a, ⟨ha, hv⟩ | ⟨rfl, hv⟩⟩
    · by_cases e : a = i
      · subst e; exact ⟨a, .inr ⟨rfl, hv⟩⟩
      · exact ⟨a, .inl ⟨by omega, hv⟩⟩
    · simp at hv
  · rintro ⟨a, ⟨ha, hv⟩ | ⟨rfl, hv⟩⟩
    · exact ⟨a, .inl ⟨by omega, hv⟩⟩
    · exact ⟨a, .inl ⟨by omega, hv⟩⟩

theorem count_last {st : Ar × (Nat → List Int) × Nat} (h : CountInv n st) {i j : Nat} (hi : i < n) (hj : j + 1 < (st.2.1 i).length) : (st.2.1 i).getD j 0 < (st.2.1 i).getD (j + 1) 0 := by
  rw [List.getD_eq_getElem?_getD, List.getD_eq_getElem?_getD, List.getElem?_eq_getElem hj, List.getElem?_eq_getElem (by omega)]
  exact List.pairwise_iff_getElem.1 (h.up i hi) j (j + 1) (by omega) hj (by omega)

theorem count_pos {st : Ar × (Nat → List Int) × Nat} (h : CountInv n st) {i j : Nat} (hi : i < n) (hj : j < (st.2.1 i).length) : 1 ≤ (st.2.1 i).getD j 0 ∧ (st.2.1 i).getD j 0 ≤ st.2.2 := by
  refine h.pos i hi _ ?_
  rw [List.getD_eq_getElem?_getD, List.getElem?_eq_getElem hj]; exact List.getElem_mem hj
end Go.Proofs.YtfipoadgfebibaaDoor
