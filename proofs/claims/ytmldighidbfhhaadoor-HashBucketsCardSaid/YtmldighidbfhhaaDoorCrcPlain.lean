/- The sum over bytes, told twice: the two are one. Plain lemmas: nothing is claimed of a program here. -/
import Derived.Test.YtmldighidbfhhaaDoorBase
namespace Go.Proofs.YtmldighidbfhhaaDoor
open Go Go.RowKit
set_option linter.unusedVariables false

/-- A bit's turn. -/
def crcB (c : Int) : Int := Go.bits .xor .u32 (c / 2) (Go.bits .and .u32 3988292384 (IntKind.u32.wrap (0 - Go.bits .and .u32 c 1)))
/-- A byte's turn. -/
def crcN : Nat → Int → Int
  | 0, c => c
  | n + 1, c => crcN n (crcB c)
def crcX (c x : Int) : Int := crcN 8 (Go.bits .xor .u32 c x)
def crcL (c : Int) (l : List Int) : Int := l.foldl crcX c
def crcF (l : List Int) : Int := Go.bits .xor .u32 4294967295 (crcL 4294967295 l)

theorem crcB_form (c : Int) : crcB c = Go.bits .xor .u32 (c / 2) (Go.bits .and .u32 3988292384 (-Go.bits .and .u32 c 1 % 4294967296)) := by
  unfold crcB
  have e : ∀ x : Int, IntKind.u32.wrap x = x % 4294967296 := fun _ => rfl
  rw [e, Int.zero_sub]

theorem wrap32 {x : Int} (h0 : 0 ≤ x) (h1 : x < 4294967296) : IntKind.u32.wrap x = x := by
  have e : IntKind.u32.wrap x = x % 4294967296 := rfl
  rw [e]; omega

theorem bits32 (op : BinOp) (x y : Int) : 0 ≤ Go.bits op .u32 x y ∧ Go.bits op .u32 x y < 4294967296 := by
  have e : ∀ z : Int, IntKind.u32.wrap z = z % 4294967296 := fun _ => rfl
  unfold Go.bits
  rw [e]
  omega

theorem xor0 {c : Int} (h0 : 0 ≤ c) (h1 : c < 4294967296) : Go.bits .xor .u32 c 0 = c := by
  obtain ⟨n, rfl⟩ := Int.eq_ofNat_of_zero_le h0
  unfold Go.bits
  show IntKind.u32.wrap (((BitVec.ofInt 32 (n : Int)) ^^^ (BitVec.ofInt 32 0)).toNat : Int) = n
  have e : BitVec.ofInt 32 0 = 0#32 := by decide
  rw [e, BitVec.xor_zero, BitVec.toNat_ofInt]
  rw [show ((n : Int) % ((2 ^ 32 : Nat) : Int)).toNat = n by omega]
  exact wrap32 h0 h1

theorem and1 {c : Int} (h0 : 0 ≤ c) (h1 : c < 4294967296) : Go.bits .and .u32 c 1 = c % 2 := by
  obtain ⟨n, rfl⟩ := Int.eq_ofNat_of_zero_le h0
  unfold Go.bits
  show IntKind.u32.wrap (((BitVec.ofInt 32 (n : Int)) &&& (BitVec.ofInt 32 1)).toNat : Int) = (n : Int) % 2
  rw [BitVec.toNat_and, BitVec.toNat_ofInt, BitVec.toNat_ofInt]
  rw [show ((n : Int) % ((2 ^ 32 : Nat) : Int)).toNat = n by omega, show ((1 : Int) % ((2 ^ 32 : Nat) : Int)).toNat = 1 by decide, Nat.and_one_is_mod]
  rw [wrap32 (by omega) (by omega)]
  omega

theorem xorC (x y : Int) : Go.bits .xor .u32 x y = Go.bits .xor .u32 y x := by
  unfold Go.bits
  show IntKind.u32.wrap (((BitVec.ofInt 32 x) ^^^ (BitVec.ofInt 32 y)).toNat : Int) = IntKind.u32.wrap (((BitVec.ofInt 32 y) ^^^ (BitVec.ofInt 32 x)).toNat : Int)
  rw [BitVec.xor_comm]

/-- The document's turn of a bit. -/
theorem crcB_eq {c : Int} (h0 : 0 ≤ c) (h1 : c < 4294967296) : crcB c = if c % 2 = 1 then Go.bits .xor .u32 (c / 2) 3988292384 else c / 2 := by
  unfold crcB
  rw [and1 h0 h1]
  rcases Int.emod_two_eq c with h | h
  · rw [h, if_neg (by omega), show Go.bits .and .u32 3988292384 (IntKind.u32.wrap (0 - 0)) = 0 by decide +kernel, xor0 (by omega) (by omega)]
  · rw [h, if_pos rfl, show Go.bits .and .u32 3988292384 (IntKind.u32.wrap (0 - 1)) = 3988292384 by decide +kernel]

theorem crcB_range {c : Int} : 0 ≤ crcB c ∧ crcB c < 4294967296 := bits32 _ _ _
theorem crcN_range (n : Nat) {c : Int} (h : 0 ≤ c ∧ c < 4294967296) : 0 ≤ crcN n c ∧ crcN n c < 4294967296 := by
  induction n generalizing c with
  | zero => exact h
  | succ n ih => exact ih crcB_range
theorem crcX_range (c x : Int) : 0 ≤ crcX c x ∧ crcX c x < 4294967296 := crcN_range 8 (bits32 _ _ _)
theorem crcL_range (l : List Int) {c : Int} (h : 0 ≤ c ∧ c < 4294967296) : 0 ≤ crcL c l ∧ crcL c l < 4294967296 := by
  induction l generalizing c with
  | nil => exact h
  | cons x l ih => exact ih (crcX_range c x)
theorem crcN_succ (n : Nat) (c : Int) : crcN (n + 1) c = crcB (crcN n c) := by
  induction n generalizing c with
  | zero => rfl
  | succ n ih => rw [crcN, ih]; rfl
theorem crcL_snoc (c : Int) (l : List Int) (x : Int) : crcL c (l ++ [x]) = crcX (crcL c l) x := by
  unfold crcL; rw [List.foldl_append]; rfl
theorem crcF_range (l : List Int) : 0 ≤ crcF l ∧ crcF l < 4294967296 := bits32 _ _ _
end Go.Proofs.YtmldighidbfhhaaDoor
