/- What a store into an arena's struct or into its row of words leaves; the arithmetic of its bits. Nothing is claimed of a program here. -/
import Derived.Test.YtpckpgdkfimapaaDoorCellsRep
import Derived.Lib.TrailingZeros
namespace Go.Proofs.YtpckpgdkfimapaaDoor
open Go Go.RowKit
set_option linter.unusedVariables false

theorem ArRep.put {w b hv size hs ws low used steps} (h : ArRep w b hv size hs ws low used steps) (i : Nat) (v : Value) (ws' : Nat → Nat) (low' used' steps' : Int)
    (e : ∀ j, j < 1029 → upd (arF size hv ws low used steps) i v j = arF size hv ws' low' used' steps' j) (hw : ∀ i, ws' i < 18446744073709551616) :
    ArRep (w.setCell ⟨b, i, none⟩ v) b hv size hs ws' low' used' steps' := by
  have k : Kept [b] w (w.setCell ⟨b, i, none⟩ v) := (Kept.refl _ w).set _ (by simp)
  refine ⟨(h.blk.set i v).congr e, k.row h.row ?_, h.ne, hw, h.few⟩
  intro j hj m
  simp at m
  exact h.ne (by rw [hj, m])

theorem ArRep.drewN {w b hv size hs ws low used steps} (h : ArRep w b hv size hs ws low used steps) (n : Nat) : ArRep (w.drewN n) b hv size hs ws low used steps :=
  ⟨h.blk.of_heap rfl, h.row, h.ne, h.word, h.few⟩

theorem ArRep.drew {w b hv size hs ws low used steps} (h : ArRep w b hv size hs ws low used steps) : ArRep w.drew b hv size hs ws low used steps :=
  ⟨h.blk.of_heap rfl, h.row, h.ne, h.word, h.few⟩

theorem ArRep.putWord {w b hv size hs ws low used steps} (h : ArRep w b hv size hs ws low used steps) (i y : Nat) (hi : i < 1024) (hy : y < 18446744073709551616) :
    ArRep (w.setCell ⟨b, 2 + i, none⟩ (.int .u64 y)) b hv size hs (fun j => if j = i then y else ws j) low used steps := by
  refine h.put _ _ _ _ _ _ ?_ ?_
  · intro j hj
    unfold upd arF
    by_cases e : j = 2 + i
    · subst e
      have e1 : 2 + i - 2 = i := by omega
      have e2 : ¬ 2 + i = 0 := by omega
      have e3 : ¬ 2 + i = 1 := by omega
      have e4 : 2 + i < 1026 := by omega
      simp only [e1, e2, e3, e4, if_true, if_false]
    · rw [if_neg e]
      by_cases e2 : j < 1026
      · by_cases e0 : j = 0
        · simp only [e0, if_true]
        by_cases e1 : j = 1
        · simp [e1]
        have e3 : ¬ j - 2 = i := by omega
        simp only [e0, e1, e2, e3, if_true, if_false]
      · simp only [e2, if_false]
  · intro j
    show (if j = i then y else ws j) < _
    split
    · exact hy
    · exact h.word j

theorem ArRep.putLow {w b hv size hs ws low used steps} (h : ArRep w b hv size hs ws low used steps) (x : Int) :
    ArRep (w.setCell ⟨b, 1026, none⟩ (.int .i64 x)) b hv size hs ws x used steps := by
  refine h.put _ _ _ _ _ _ ?_ h.word
  intro j hj
  unfold upd arF
  by_cases e : j = 1026
  · subst e; simp
  · rw [if_neg e]; repeat' split
    all_goals first | rfl | (exfalso; omega)

theorem ArRep.putUsed {w b hv size hs ws low used steps} (h : ArRep w b hv size hs ws low used steps) (x : Int) :
    ArRep (w.setCell ⟨b, 1027, none⟩ (.int .i64 x)) b hv size hs ws low x steps := by
  refine h.put _ _ _ _ _ _ ?_ h.word
  intro j hj
  unfold upd arF
  by_cases e : j = 1027
  · subst e; simp
  · rw [if_neg e]; repeat' split
    all_goals first | rfl | (exfalso; omega)

/-- A store into the row of words. -/
theorem ArRep.putCell {w b g n cap size hs ws low used steps} (h : ArRep w b (.slice (some ⟨g, 0, none⟩) n cap) size hs ws low used steps) (k : Nat) (x : Int) (hk : k < hs.length) :
    ArRep (w.setCell ⟨g, k, none⟩ (.int .u64 x)) b (.slice (some ⟨g, 0, none⟩) n cap) size (hs.set k x) ws low used steps := by
  have hgb : g ≠ b := fun e => h.ne (by simp [Value.ownBlock, e])
  refine ⟨h.blk.other _ (by simpa using hgb), ?_, h.ne, h.word, by simpa using h.few⟩
  obtain ⟨hl, h1 | ⟨g', cap', cur, hv', h0, hg, h2, h3, h4, h5⟩⟩ := h.row
  · cases h1.1
  · cases hv'
    refine ⟨by simp, .inr ⟨g, cap, cur.setIfInBounds k (.int .u64 x), by simp, Nat.zero_le _, ?_, by simpa using h2, h3, by simpa using h4, ?_⟩⟩
    · simp [World.setCell, Array.getElem?_modify, hg]
    · simp only [List.length_set, Nat.mul_one, Array.toList_setIfInBounds, List.map_set]
      rw [← h5, Nat.mul_one, List.take_set]

/-- Behind an append to the row, the new value laid in the struct. -/
theorem ArRep.putRow {w w1 : World} {b hv size hs ws low used steps} (h : ArRep w b hv size hs ws low used steps) (hv' : Value) (x : Int)
    (hrow : w1.ownsRow 0 65 1 hv' (hs.length + 1) (hs.map (Value.int .u64) ++ [.int .u64 x])) (hb : w1.heap[b]? = w.heap[b]?) (hne : hv'.ownBlock ≠ some b) (hf : hs.length + 1 ≤ 65536) :
    ArRep (w1.setCell ⟨b, 1, none⟩ hv') b hv' size (hs ++ [x]) ws low used steps := by
  have h1 : Blk w1 b 1029 68 (arF size hv ws low used steps) := h.blk.of_heap hb
  have k : Kept [b] w1 (w1.setCell ⟨b, 1, none⟩ hv') := (Kept.refl _ w1).set _ (by simp)
  refine ⟨(h1.set 1 hv').congr ?_, ?_, hne, h.word, by simpa using hf⟩
  · intro j hj
    unfold upd arF
    by_cases e : j = 1
    · subst e; simp
    · simp only [e, if_false]
  · have := k.row hrow (by intro j hj m; simp at m; exact hne (by rw [hj, m]))
    simpa using this

/-- The least bit that a word lacks. -/
theorem least_gap (x : Nat) (hx : x < 18446744073709551616) (hf : x ≠ 18446744073709551615) :
    Lib.ctz 64 (18446744073709551615 - x) < 64 ∧ x.testBit (Lib.ctz 64 (18446744073709551615 - x)) = false ∧ ∀ i, i < Lib.ctz 64 (18446744073709551615 - x) → x.testBit i = true := by
  have hb : ∀ i, i < 64 → (18446744073709551615 - x).testBit i = !x.testBit i := by
    intro i hi
    have := Nat.testBit_two_pow_sub_succ (n := 64) (x := x) hx i
    rw [show (2 ^ 64 - (x + 1)) = 18446744073709551615 - x from by omega] at this
    rw [this]; simp [hi]
  generalize hy : 18446744073709551615 - x = y at *
  have h0 : y ≠ 0 := by omega
  have hlt : y < 2 ^ 64 := by omega
  obtain ⟨m, hm, hk⟩ := Lib.ctzFrom_spec 64 y (by omega) hlt
  have e : Lib.ctz 64 y = Lib.ctzFrom 64 y := by simp [Lib.ctz, h0]
  rw [e]
  generalize Lib.ctzFrom 64 y = j at *
  have tb : ∀ i, i ≤ j → y.testBit i = decide (i = j) := by
    intro i hi
    rw [hm, Nat.mul_comm, Nat.testBit_mul_two_pow]
    by_cases e : i = j
    · subst e; simp [Nat.testBit_zero]
    · have h1 : ¬ j ≤ i := by omega
      simp [e, h1]
  refine ⟨hk, ?_, ?_⟩
  · have h1 := hb j hk
    rw [tb j (Nat.le_refl _)] at h1
    simpa using h1
  · intro i hi
    have h1 := hb i (by omega)
    rw [tb i (by omega)] at h1
    have : decide (i = j) = false := by simp; omega
    rw [this] at h1
    simpa using h1.symm

theorem xor_not (x : Nat) (hx : x < 18446744073709551616) : bits BinOp.xor IntKind.u64 (if IntKind.u64.signed = true then -1 else IntKind.u64.max) (x : Int) = ((18446744073709551615 - x : Nat) : Int) := by
  have h1 : (BitVec.ofInt 64 (x : Int)).toNat = x := by
    rw [BitVec.ofInt_natCast, BitVec.toNat_ofNat]; exact Nat.mod_eq_of_lt (by omega)
  show IntKind.u64.wrap ((BitVec.ofInt 64 (18446744073709551615 : Int) ^^^ BitVec.ofInt 64 (x : Int)).toNat : Int) = _
  have h2 : BitVec.ofInt 64 (18446744073709551615 : Int) = BitVec.allOnes 64 := by decide
  rw [h2, BitVec.xor_comm, BitVec.xor_allOnes, BitVec.toNat_not, h1, IntKind.wrap_u64]
  omega

theorem or_pow (x j : Nat) (hx : x < 18446744073709551616) (hj : j < 64) : bits BinOp.or IntKind.u64 (x : Int) (IntKind.u64.wrap (2 ^ j)) = ((x ||| 2 ^ j : Nat) : Int) ∧ x ||| 2 ^ j < 18446744073709551616 := by
  have hp : 2 ^ j < 18446744073709551616 := by
    have : 2 ^ j < 2 ^ 64 := Nat.pow_lt_pow_right (by omega) hj
    omega
  have e : IntKind.u64.wrap (2 ^ j) = ((2 ^ j : Nat) : Int) := by
    have e0 : ((2 : Int) ^ j) = ((2 ^ j : Nat) : Int) := by simp
    rw [IntKind.wrap_u64, e0]
    generalize 2 ^ j = z at *
    omega
  rw [e]
  exact ⟨bits_or_u64_nat x _ hx hp, Nat.or_lt_two_pow (n := 64) hx hp⟩

theorem andnot_pow (x j : Nat) (hx : x < 18446744073709551616) (hj : j < 64) : ∃ y : Nat, bits BinOp.andNot IntKind.u64 (x : Int) (IntKind.u64.wrap (2 ^ j)) = (y : Int) ∧ y < 18446744073709551616 ∧ ∀ i, y.testBit i = (x.testBit i && !decide (i = j)) := by
  have hp : 2 ^ j < 18446744073709551616 := by
    have : 2 ^ j < 2 ^ 64 := Nat.pow_lt_pow_right (by omega) hj
    omega
  have e : IntKind.u64.wrap (2 ^ j) = ((2 ^ j : Nat) : Int) := by
    have e0 : ((2 : Int) ^ j) = ((2 ^ j : Nat) : Int) := by simp
    rw [IntKind.wrap_u64, e0]
    generalize 2 ^ j = z at *
    omega
  rw [e]
  have h1 : (BitVec.ofInt 64 (x : Int)).toNat = x := by
    rw [BitVec.ofInt_natCast, BitVec.toNat_ofNat]; exact Nat.mod_eq_of_lt (by omega)
  have h2 : (BitVec.ofInt 64 ((2 ^ j : Nat) : Int)).toNat = 2 ^ j := by
    rw [BitVec.ofInt_natCast, BitVec.toNat_ofNat]; exact Nat.mod_eq_of_lt (by omega)
  refine ⟨(BitVec.ofInt 64 (x : Int) &&& ~~~ BitVec.ofInt 64 ((2 ^ j : Nat) : Int)).toNat, ?_, (BitVec.isLt _), ?_⟩
  · show IntKind.u64.wrap ((BitVec.ofInt 64 (x : Int) &&& ~~~ BitVec.ofInt 64 ((2 ^ j : Nat) : Int)).toNat : Int) = _
    have := (BitVec.ofInt 64 (x : Int) &&& ~~~ BitVec.ofInt 64 ((2 ^ j : Nat) : Int)).isLt
    rw [IntKind.wrap_u64]
    omega
  · intro i
    rw [BitVec.toNat_and, Nat.testBit_and, h1, BitVec.toNat_not, h2]
    have := Nat.testBit_two_pow_sub_succ (n := 64) (x := 2 ^ j) hp i
    rw [show (2 ^ 64 - (2 ^ j + 1)) = 2 ^ 64 - 1 - 2 ^ j from by omega] at this
    rw [this, Nat.testBit_two_pow]
    by_cases hi : i < 64
    · simp [hi, eq_comm]
    · have : x.testBit i = false := Nat.testBit_lt_two_pow (Nat.lt_of_lt_of_le hx (by have : 2 ^ 64 ≤ 2 ^ i := Nat.pow_le_pow_right (by omega) (by omega); omega))
      rw [this]; rfl

end Go.Proofs.YtpckpgdkfimapaaDoor
