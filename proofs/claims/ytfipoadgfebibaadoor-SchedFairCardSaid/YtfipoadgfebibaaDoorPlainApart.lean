/- What a run comes to does not hang on the picks' order, where no two programs touch a cell in common. Plain lemmas: nothing is claimed of a program here. -/
import Derived.Test.YtfipoadgfebibaaDoorRefParts
import Derived.Test.YtfipoadgfebibaaDoorMoved
namespace Go.Proofs.YtfipoadgfebibaaDoor
open Go Go.RowKit
set_option linter.unusedVariables false

/-- How often i is among the first k. -/
def cntp (z : Nat → Int) (i : Int) : Nat → Nat
  | 0 => 0
  | k + 1 => cntp z i k + if z k = i then 1 else 0

theorem cntp_succ (z : Nat → Int) (i : Int) (k : Nat) : cntp z i (k + 1) = cntp z i k + if z k = i then 1 else 0 := rfl

def sumTo (f : Nat → Nat) : Nat → Nat
  | 0 => 0
  | n + 1 => sumTo f n + f n

theorem sumTo_congr {f g : Nat → Nat} {n : Nat} (h : ∀ i, i < n → f i = g i) : sumTo f n = sumTo g n := by
  induction n with
  | zero => rfl
  | succ n ih => unfold sumTo; rw [ih fun i hi => h i (by omega), h n (by omega)]

theorem sumTo_bump {f g : Nat → Nat} {n i : Nat} (hi : i < n) (hg : ∀ j, g j = f j + if j = i then 1 else 0) : sumTo g n = sumTo f n + 1 := by
  induction n with
  | zero => omega
  | succ n ih =>
    unfold sumTo
    by_cases e : n = i
    · subst e
      rw [hg n, if_pos rfl, sumTo_congr (f := g) (g := f) fun j hj => by rw [hg j, if_neg (by omega)]; rfl]
      omega
    · rw [ih (by omega), hg n, if_neg e]
      omega

theorem sumTo_zero (n : Nat) : sumTo (fun _ => 0) n = 0 := by
  induction n with
  | zero => rfl
  | succ n ih => unfold sumTo; rw [ih]

theorem sumTo_le {f : Nat → Nat} {n b : Nat} (h : ∀ i, i < n → f i ≤ b) : sumTo f n ≤ n * b := by
  induction n with
  | zero => simp [sumTo]
  | succ n ih =>
    unfold sumTo
    have := ih fun i hi => h i (by omega)
    have := h n (by omega)
    rw [Nat.succ_mul]
    omega

theorem cntp_take (l : List Int) (i : Int) (k : Nat) (hk : k ≤ l.length) : cntp (fun j => l.getD j 0) i k = (l.take k).count i := by
  induction k with
  | zero => simp [cntp]
  | succ k ih =>
    unfold cntp
    rw [ih (by omega), List.take_add_one, List.getElem?_eq_getElem (by omega), List.count_append]
    simp only [Option.toList_some, List.count_singleton, beq_iff_eq]
    rw [List.getD_eq_getElem?_getD, List.getElem?_eq_getElem (by omega)]
    rfl

theorem cntp_list (l : List Int) (i : Int) : cntp (fun j => l.getD j 0) i l.length = l.count i := by
  rw [cntp_take l i _ (Nat.le_refl _), List.take_length]

/-- One program behind the other. -/
def ord (L : Nat → Nat) : Nat → List Int
  | 0 => []
  | n + 1 => ord L n ++ List.replicate (L n) (n : Int)

theorem ord_count (L : Nat → Nat) (n i : Nat) : (ord L n).count (i : Int) = if i < n then L i else 0 := by
  induction n with
  | zero => rfl
  | succ n ih =>
    unfold ord
    rw [List.count_append, ih, List.count_replicate]
    by_cases e : i = n
    · subst e; simp
    · have h1 : ((n : Int) == (i : Int)) = false := by simp; omega
      rw [h1]
      by_cases h : i < n
      · rw [if_pos h, if_pos (show i < n + 1 by omega)]; simp
      · rw [if_neg h, if_neg (show ¬ i < n + 1 by omega)]; simp

theorem ord_length (L : Nat → Nat) (n : Nat) : (ord L n).length = sumTo L n := by
  induction n with
  | zero => rfl
  | succ n ih => unfold ord sumTo; rw [List.length_append, ih, List.length_replicate]

variable {n : Nat} {L : Nat → Nat} {P : Nat → Nat → OpV} {S0 : Ar} {z : Nat → Int}

/-- The two ways of a turn. -/
theorem runS_cases (n : Nat) (L : Nat → Nat) (P : Nat → Nat → OpV) (S0 : Ar) (z : Nat → Int) (k : Nat) :
    (runS n L P S0 z (k + 1) = runS n L P S0 z k ∧ ∀ i, i < n → z k = (i : Int) → L i ≤ ((runS n L P S0 z k).2.1 i).length) ∨
    ∃ i : Nat, z k = i ∧ i < n ∧ ((runS n L P S0 z k).2.1 i).length < L i ∧
      runS n L P S0 z (k + 1) = ((doS (runS n L P S0 z k).1 (P i ((runS n L P S0 z k).2.1 i).length).k (P i ((runS n L P S0 z k).2.1 i).length).c (P i ((runS n L P S0 z k).2.1 i).length).x (P i ((runS n L P S0 z k).2.1 i).length).y).2.2,
        updF (runS n L P S0 z k).2.1 i ((runS n L P S0 z k).2.1 i ++ [(doS (runS n L P S0 z k).1 (P i ((runS n L P S0 z k).2.1 i).length).k (P i ((runS n L P S0 z k).2.1 i).length).c (P i ((runS n L P S0 z k).2.1 i).length).x (P i ((runS n L P S0 z k).2.1 i).length).y).1]), (runS n L P S0 z k).2.2 + 1) := by
  by_cases h : 0 ≤ z k ∧ z k < n ∧ ((runS n L P S0 z k).2.1 (z k).toNat).length < L (z k).toNat
  · right
    obtain ⟨h0, h1, h2⟩ := h
    obtain ⟨i, hi⟩ := Int.eq_ofNat_of_zero_le h0
    rw [hi, Int.toNat_natCast] at h2
    exact ⟨i, hi, by omega, h2, runS_step hi (by omega) h2 rfl⟩
  · left
    refine ⟨runS_skip h, fun i hi hz => ?_⟩
    rw [hz, Int.toNat_natCast] at h
    omega

theorem runS_len (k i : Nat) (hi : i < n) : ((runS n L P S0 z k).2.1 i).length = min (L i) (cntp z i k) := by
  induction k with
  | zero => simp [runS, cntp]
  | succ k ih =>
    have hle := (runS_inv n L P S0 z k).len i hi
    rcases runS_cases n L P S0 z k with ⟨h1, h2⟩ | ⟨j, hj, hjn, hjl, h1⟩
    · rw [h1, ih, cntp_succ]
      by_cases e : z k = (i : Int)
      · have := h2 i hi e
        rw [if_pos e]; omega
      · rw [if_neg e]; rfl
    · rw [h1, cntp_succ]
      show List.length (updF (runS n L P S0 z k).2.1 j _ i) = _
      unfold updF
      by_cases e : i = j
      · subst e
        rw [if_pos rfl, if_pos hj, List.length_append]
        simp only [List.length_cons, List.length_nil]
        omega
      · rw [if_neg e, if_neg (by rw [hj]; omega), ih]; rfl

theorem runS_many (k : Nat) : (runS n L P S0 z k).2.2 = sumTo (fun i => ((runS n L P S0 z k).2.1 i).length) n := by
  induction k with
  | zero => exact (sumTo_zero n).symm
  | succ k ih =>
    rcases runS_cases n L P S0 z k with ⟨h1, h2⟩ | ⟨j, hj, hjn, hjl, h1⟩
    · rw [h1, ih]
    · rw [h1]
      show _ + 1 = sumTo (fun i => List.length (updF (runS n L P S0 z k).2.1 j _ i)) n
      rw [ih]
      refine (sumTo_bump hjn fun d => ?_).symm
      unfold updF
      by_cases e : d = j
      · subst e; simp
      · simp [e]

theorem doS_other (S : Ar) (k c x y : Int) (d : Nat) (h : (d : Int) ≠ c) : (doS S k c x y).2.2.get d = S.get d := by
  unfold doS
  have key : ∀ v : Int, 0 ≤ c → (S.step.put c.toNat v).get d = S.get d := fun v h0 => by
    show (if d = c.toNat then some v else S.get d) = _
    rw [if_neg (by omega)]
  split
  · split
    · rfl
    · rename_i v hv
      have h0 : 0 ≤ c := by
        by_cases h0 : 0 ≤ c
        · exact h0
        · rw [if_neg h0] at hv; cases hv
      repeat' split
      all_goals first | rfl | exact key _ h0
  · rfl

theorem doS_same (S T : Ar) (k c x y : Int) (h : 0 ≤ c → S.get c.toNat = T.get c.toNat) : (doS S k c x y).1 = (doS T k c x y).1 ∧ ∀ d, S.get d = T.get d → (doS S k c x y).2.2.get d = (doS T k c x y).2.2.get d := by
  have hh : (if 0 ≤ c then S.get c.toNat else none) = (if 0 ≤ c then T.get c.toNat else none) := by
    by_cases h0 : 0 ≤ c
    · rw [if_pos h0, if_pos h0, h h0]
    · rw [if_neg h0, if_neg h0]
  have key : ∀ (v : Int) (d : Nat), S.get d = T.get d → (S.step.put c.toNat v).get d = (T.step.put c.toNat v).get d := fun v d hd => by
    show (if d = c.toNat then some v else S.get d) = (if d = c.toNat then some v else T.get d)
    rw [hd]
  unfold doS
  rw [hh]
  split
  · split
    · exact ⟨rfl, fun d hd => hd⟩
    · repeat' split
      all_goals first | exact ⟨rfl, fun d hd => hd⟩ | exact ⟨rfl, fun d hd => key _ d hd⟩
  · exact ⟨rfl, fun d hd => hd⟩

/-- A program by itself. -/
def solo (P : Nat → Nat → OpV) (S0 : Ar) (i : Nat) : Nat → Ar × List Int
  | 0 => (S0, [])
  | c + 1 => ((doS (solo P S0 i c).1 (P i c).k (P i c).c (P i c).x (P i c).y).2.2, (solo P S0 i c).2 ++ [(doS (solo P S0 i c).1 (P i c).k (P i c).c (P i c).x (P i c).y).1])

structure ApartInv (n : Nat) (P : Nat → Nat → OpV) (S0 : Ar) (st : Ar × (Nat → List Int) × Nat) : Prop where
  out : ∀ i, i < n → st.2.1 i = (solo P S0 i (st.2.1 i).length).2
  cell : ∀ i, i < n → ∀ d, i * 4 ≤ d → d < i * 4 + 4 → st.1.get d = (solo P S0 i (st.2.1 i).length).1.get d
  rest : ∀ d, n * 4 ≤ d → st.1.get d = S0.get d

theorem runS_apart (hP : ∀ i, i < n → ∀ k, k < L i → (i : Int) * 4 ≤ (P i k).c ∧ (P i k).c < i * 4 + 4) (k : Nat) : ApartInv n P S0 (runS n L P S0 z k) := by
  induction k with
  | zero => exact ⟨fun i hi => rfl, fun i hi d _ _ => rfl, fun d _ => rfl⟩
  | succ k ih =>
    rcases runS_cases n L P S0 z k with ⟨h1, h2⟩ | ⟨j, hj, hjn, hjl, h1⟩
    · rw [h1]; exact ih
    · rw [h1]
      generalize runS n L P S0 z k = st at *
      have hc := hP j hjn _ hjl
      generalize hl : (st.2.1 j).length = l at *
      have hlocal := doS_same st.1 (solo P S0 j l).1 (P j l).k (P j l).c (P j l).x (P j l).y (fun h0 => by
        have := ih.cell j hjn (P j l).c.toNat (by omega) (by omega)
        rw [hl] at this
        exact this)
      refine ⟨fun i hi => ?_, fun i hi d h0 h9 => ?_, fun d hd => ?_⟩
      · show updF st.2.1 j _ i = (solo P S0 i (updF st.2.1 j _ i).length).2
        unfold updF
        by_cases e : i = j
        · subst e
          rw [if_pos rfl, List.length_append, hl]
          show _ = (solo P S0 i (l + 1)).2
          unfold solo
          rw [hlocal.1]
          have := ih.out i hi
          rw [hl] at this
          rw [← this]
        · rw [if_neg e]; exact ih.out i hi
      · show (doS st.1 _ _ _ _).2.2.get d = (solo P S0 i (updF st.2.1 j _ i).length).1.get d
        unfold updF
        by_cases e : i = j
        · subst e
          rw [if_pos rfl, List.length_append, hl]
          show _ = (solo P S0 i (l + 1)).1.get d
          unfold solo
          refine hlocal.2 d ?_
          have := ih.cell i hi d h0 h9
          rw [hl] at this
          exact this
        · rw [if_neg e, doS_other _ _ _ _ _ _ (by omega)]
          exact ih.cell i hi d h0 h9
      · show (doS st.1 _ _ _ _).2.2.get d = _
        rw [doS_other _ _ _ _ _ _ (by omega)]
        exact ih.rest d hd

/-- Two runs that do all operations come to the same. -/
theorem apart_same (hP : ∀ i, i < n → ∀ k, k < L i → (i : Int) * 4 ≤ (P i k).c ∧ (P i k).c < i * 4 + 4) (y : Nat → Int) (k m : Nat) (hk : ∀ i, i < n → L i ≤ cntp z i k) (hm : ∀ i, i < n → L i ≤ cntp y i m) :
    (∀ i, i < n → (runS n L P S0 z k).2.1 i = (runS n L P S0 y m).2.1 i) ∧ (∀ d, (runS n L P S0 z k).1.get d = (runS n L P S0 y m).1.get d) ∧ (runS n L P S0 z k).2.2 = sumTo L n ∧ (runS n L P S0 y m).2.2 = sumTo L n := by
  have a := runS_apart (S0 := S0) (z := z) hP k
  have b := runS_apart (S0 := S0) (z := y) hP m
  have la : ∀ i, i < n → ((runS n L P S0 z k).2.1 i).length = L i := fun i hi => by rw [runS_len k i hi]; have := hk i hi; omega
  have lb : ∀ i, i < n → ((runS n L P S0 y m).2.1 i).length = L i := fun i hi => by rw [runS_len m i hi]; have := hm i hi; omega
  refine ⟨fun i hi => ?_, fun d => ?_, ?_, ?_⟩
  · rw [a.out i hi, b.out i hi, la i hi, lb i hi]
  · by_cases hd : n * 4 ≤ d
    · rw [a.rest d hd, b.rest d hd]
    · have hi : d / 4 < n := by omega
      rw [a.cell (d / 4) hi d (by omega) (by omega), b.cell (d / 4) hi d (by omega) (by omega), la _ hi, lb _ hi]
  · rw [runS_many]; exact sumTo_congr la
  · rw [runS_many]; exact sumTo_congr lb
end Go.Proofs.YtfipoadgfebibaaDoor
