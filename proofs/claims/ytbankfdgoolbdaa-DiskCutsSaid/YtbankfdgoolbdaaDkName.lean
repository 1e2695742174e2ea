/- Which names may be: IsName walked; what it answers, told plainly. -/
import Derived.Test.YtbankfdgoolbdaaDkSt
import Derived.Test.YtbankfdgoolbdaaShelf
import Derived.Laws.RangeAny
namespace Go.Proofs.Ytbankfdgoolbdaa
open Go Go.RowKit Go.Lib
set_option linter.unusedVariables false

/-- A rune that may not be in a name. -/
def oddR (r : Nat) : Bool := (decide (r < 97) || decide (122 < r)) && (decide (r < 65) || decide (90 < r)) && (decide (r < 48) || decide (57 < r)) && !(r == 45) && !(r == 46)

set_option maxHeartbeats 1000000 in
theorem odd_walk0 (r : Nat) (W : World) (h : r < 45) : Calls Try.prog 28 #[.int .i32 r] W fun e w' => e = .returned (.bool true) ∧ ∃ q, w' = W.drewN q := by
  have c0 : ((r : Int) < 97) ↔ True := by simp; omega
  have c1 : (122 < (r : Int)) ↔ False := by simp; omega
  have c2 : ((r : Int) < 65) ↔ True := by simp; omega
  have c3 : (90 < (r : Int)) ↔ False := by simp; omega
  have c4 : ((r : Int) < 48) ↔ True := by simp; omega
  have c5 : (57 < (r : Int)) ↔ False := by simp; omega
  have c6 : ((r : Int) != 45) = true := by simp; omega
  have c7 : ((r : Int) != 46) = true := by simp; omega
  clear h
  go_enter Try.func28, Try.ntmps28
  go_wp2
  go_ret
  exact ⟨rfl, 0, rfl⟩

set_option maxHeartbeats 1000000 in
theorem odd_walk1 (r : Nat) (W : World) (h : r = 45) : Calls Try.prog 28 #[.int .i32 r] W fun e w' => e = .returned (.bool false) ∧ ∃ q, w' = W.drewN q := by
  have c0 : ((r : Int) < 97) ↔ True := by simp; omega
  have c1 : (122 < (r : Int)) ↔ False := by simp; omega
  have c2 : ((r : Int) < 65) ↔ True := by simp; omega
  have c3 : (90 < (r : Int)) ↔ False := by simp; omega
  have c4 : ((r : Int) < 48) ↔ True := by simp; omega
  have c5 : (57 < (r : Int)) ↔ False := by simp; omega
  have c6 : ((r : Int) != 45) = false := by simp; omega
  have c7 : ((r : Int) != 46) = true := by simp; omega
  clear h
  go_enter Try.func28, Try.ntmps28
  go_wp2
  go_ret
  exact ⟨rfl, 0, rfl⟩

set_option maxHeartbeats 1000000 in
theorem odd_walk2 (r : Nat) (W : World) (h : r = 46) : Calls Try.prog 28 #[.int .i32 r] W fun e w' => e = .returned (.bool false) ∧ ∃ q, w' = W.drewN q := by
  have c0 : ((r : Int) < 97) ↔ True := by simp; omega
  have c1 : (122 < (r : Int)) ↔ False := by simp; omega
  have c2 : ((r : Int) < 65) ↔ True := by simp; omega
  have c3 : (90 < (r : Int)) ↔ False := by simp; omega
  have c4 : ((r : Int) < 48) ↔ True := by simp; omega
  have c5 : (57 < (r : Int)) ↔ False := by simp; omega
  have c6 : ((r : Int) != 45) = true := by simp; omega
  have c7 : ((r : Int) != 46) = false := by simp; omega
  clear h
  go_enter Try.func28, Try.ntmps28
  go_wp2
  go_ret
  exact ⟨rfl, 0, rfl⟩

set_option maxHeartbeats 1000000 in
theorem odd_walk3 (r : Nat) (W : World) (h : r = 47) : Calls Try.prog 28 #[.int .i32 r] W fun e w' => e = .returned (.bool true) ∧ ∃ q, w' = W.drewN q := by
  have c0 : ((r : Int) < 97) ↔ True := by simp; omega
  have c1 : (122 < (r : Int)) ↔ False := by simp; omega
  have c2 : ((r : Int) < 65) ↔ True := by simp; omega
  have c3 : (90 < (r : Int)) ↔ False := by simp; omega
  have c4 : ((r : Int) < 48) ↔ True := by simp; omega
  have c5 : (57 < (r : Int)) ↔ False := by simp; omega
  have c6 : ((r : Int) != 45) = true := by simp; omega
  have c7 : ((r : Int) != 46) = true := by simp; omega
  clear h
  go_enter Try.func28, Try.ntmps28
  go_wp2
  go_ret
  exact ⟨rfl, 0, rfl⟩

set_option maxHeartbeats 1000000 in
theorem odd_walk4 (r : Nat) (W : World) (h : 48 ≤ r ∧ r ≤ 57) : Calls Try.prog 28 #[.int .i32 r] W fun e w' => e = .returned (.bool false) ∧ ∃ q, w' = W.drewN q := by
  have c0 : ((r : Int) < 97) ↔ True := by simp; omega
  have c1 : (122 < (r : Int)) ↔ False := by simp; omega
  have c2 : ((r : Int) < 65) ↔ True := by simp; omega
  have c3 : (90 < (r : Int)) ↔ False := by simp; omega
  have c4 : ((r : Int) < 48) ↔ False := by simp; omega
  have c5 : (57 < (r : Int)) ↔ False := by simp; omega
  have c6 : ((r : Int) != 45) = true := by simp; omega
  have c7 : ((r : Int) != 46) = true := by simp; omega
  clear h
  go_enter Try.func28, Try.ntmps28
  go_wp2
  go_ret
  exact ⟨rfl, 0, rfl⟩

set_option maxHeartbeats 1000000 in
theorem odd_walk5 (r : Nat) (W : World) (h : 58 ≤ r ∧ r ≤ 64) : Calls Try.prog 28 #[.int .i32 r] W fun e w' => e = .returned (.bool true) ∧ ∃ q, w' = W.drewN q := by
  have c0 : ((r : Int) < 97) ↔ True := by simp; omega
  have c1 : (122 < (r : Int)) ↔ False := by simp; omega
  have c2 : ((r : Int) < 65) ↔ True := by simp; omega
  have c3 : (90 < (r : Int)) ↔ False := by simp; omega
  have c4 : ((r : Int) < 48) ↔ False := by simp; omega
  have c5 : (57 < (r : Int)) ↔ True := by simp; omega
  have c6 : ((r : Int) != 45) = true := by simp; omega
  have c7 : ((r : Int) != 46) = true := by simp; omega
  clear h
  go_enter Try.func28, Try.ntmps28
  go_wp2
  go_ret
  exact ⟨rfl, 0, rfl⟩

set_option maxHeartbeats 1000000 in
theorem odd_walk6 (r : Nat) (W : World) (h : 65 ≤ r ∧ r ≤ 90) : Calls Try.prog 28 #[.int .i32 r] W fun e w' => e = .returned (.bool false) ∧ ∃ q, w' = W.drewN q := by
  have c0 : ((r : Int) < 97) ↔ True := by simp; omega
  have c1 : (122 < (r : Int)) ↔ False := by simp; omega
  have c2 : ((r : Int) < 65) ↔ False := by simp; omega
  have c3 : (90 < (r : Int)) ↔ False := by simp; omega
  have c4 : ((r : Int) < 48) ↔ False := by simp; omega
  have c5 : (57 < (r : Int)) ↔ True := by simp; omega
  have c6 : ((r : Int) != 45) = true := by simp; omega
  have c7 : ((r : Int) != 46) = true := by simp; omega
  clear h
  go_enter Try.func28, Try.ntmps28
  go_wp2
  go_ret
  exact ⟨rfl, 0, rfl⟩

set_option maxHeartbeats 1000000 in
theorem odd_walk7 (r : Nat) (W : World) (h : 91 ≤ r ∧ r ≤ 96) : Calls Try.prog 28 #[.int .i32 r] W fun e w' => e = .returned (.bool true) ∧ ∃ q, w' = W.drewN q := by
  have c0 : ((r : Int) < 97) ↔ True := by simp; omega
  have c1 : (122 < (r : Int)) ↔ False := by simp; omega
  have c2 : ((r : Int) < 65) ↔ False := by simp; omega
  have c3 : (90 < (r : Int)) ↔ True := by simp; omega
  have c4 : ((r : Int) < 48) ↔ False := by simp; omega
  have c5 : (57 < (r : Int)) ↔ True := by simp; omega
  have c6 : ((r : Int) != 45) = true := by simp; omega
  have c7 : ((r : Int) != 46) = true := by simp; omega
  clear h
  go_enter Try.func28, Try.ntmps28
  go_wp2
  go_ret
  exact ⟨rfl, 0, rfl⟩

set_option maxHeartbeats 1000000 in
theorem odd_walk8 (r : Nat) (W : World) (h : 97 ≤ r ∧ r ≤ 122) : Calls Try.prog 28 #[.int .i32 r] W fun e w' => e = .returned (.bool false) ∧ ∃ q, w' = W.drewN q := by
  have c0 : ((r : Int) < 97) ↔ False := by simp; omega
  have c1 : (122 < (r : Int)) ↔ False := by simp; omega
  have c2 : ((r : Int) < 65) ↔ False := by simp; omega
  have c3 : (90 < (r : Int)) ↔ True := by simp; omega
  have c4 : ((r : Int) < 48) ↔ False := by simp; omega
  have c5 : (57 < (r : Int)) ↔ True := by simp; omega
  have c6 : ((r : Int) != 45) = true := by simp; omega
  have c7 : ((r : Int) != 46) = true := by simp; omega
  clear h
  go_enter Try.func28, Try.ntmps28
  go_wp2
  go_ret
  exact ⟨rfl, 0, rfl⟩

set_option maxHeartbeats 1000000 in
theorem odd_walk9 (r : Nat) (W : World) (h : 123 ≤ r) : Calls Try.prog 28 #[.int .i32 r] W fun e w' => e = .returned (.bool true) ∧ ∃ q, w' = W.drewN q := by
  have c0 : ((r : Int) < 97) ↔ False := by simp; omega
  have c1 : (122 < (r : Int)) ↔ True := by simp; omega
  have c2 : ((r : Int) < 65) ↔ False := by simp; omega
  have c3 : (90 < (r : Int)) ↔ True := by simp; omega
  have c4 : ((r : Int) < 48) ↔ False := by simp; omega
  have c5 : (57 < (r : Int)) ↔ True := by simp; omega
  have c6 : ((r : Int) != 45) = true := by simp; omega
  have c7 : ((r : Int) != 46) = true := by simp; omega
  clear h
  go_enter Try.func28, Try.ntmps28
  go_wp2
  go_ret
  exact ⟨rfl, 0, rfl⟩

theorem odd_pred (w : World) : PredAt Try.prog 28 #[] encR oddR w := fun W r _ => by
  show Calls Try.prog 28 #[.int .i32 r] W fun e w' => e = .returned (.bool (oddR r)) ∧ ∃ q, w' = W.drewN q
  by_cases h0 : r < 45
  · have e : oddR r = true := by simp [oddR]; omega
    rw [e]; exact odd_walk0 r W h0
  by_cases h1 : r = 45
  · have e : oddR r = false := by simp [oddR]; omega
    rw [e]; exact odd_walk1 r W h1
  by_cases h2 : r = 46
  · have e : oddR r = false := by simp [oddR]; omega
    rw [e]; exact odd_walk2 r W h2
  by_cases h3 : r = 47
  · have e : oddR r = true := by simp [oddR]; omega
    rw [e]; exact odd_walk3 r W h3
  by_cases h4 : 48 ≤ r ∧ r ≤ 57
  · have e : oddR r = false := by simp [oddR]; omega
    rw [e]; exact odd_walk4 r W h4
  by_cases h5 : 58 ≤ r ∧ r ≤ 64
  · have e : oddR r = true := by simp [oddR]; omega
    rw [e]; exact odd_walk5 r W h5
  by_cases h6 : 65 ≤ r ∧ r ≤ 90
  · have e : oddR r = false := by simp [oddR]; omega
    rw [e]; exact odd_walk6 r W h6
  by_cases h7 : 91 ≤ r ∧ r ≤ 96
  · have e : oddR r = true := by simp [oddR]; omega
    rw [e]; exact odd_walk7 r W h7
  by_cases h8 : 97 ≤ r ∧ r ≤ 122
  · have e : oddR r = false := by simp [oddR]; omega
    rw [e]; exact odd_walk8 r W h8
  by_cases h9 : 123 ≤ r
  · have e : oddR r = true := by simp [oddR]; omega
    rw [e]; exact odd_walk9 r W h9
  omega

/-- A byte may be in a name just if the rune it is may. -/
theorem okByte_odd (c : UInt8) : okByte c = !(oddR c.toNat) := by
  have h := c.toNat_lt
  have e1 : ∀ k : UInt8, (k ≤ c) = (k.toNat ≤ c.toNat) := fun k => propext UInt8.le_iff_toNat_le
  have e2 : ∀ k : UInt8, (c ≤ k) = (c.toNat ≤ k.toNat) := fun k => propext UInt8.le_iff_toNat_le
  have e3 : ∀ k : UInt8, (c == k) = (c.toNat == k.toNat) := fun k => by
    rw [Bool.eq_iff_iff]; simp [UInt8.toNat_inj]
  unfold okByte oddR
  simp only [e1, e2, e3]
  rw [Bool.eq_iff_iff]
  simp
  try omega

theorem idx_names (s : ByteArray) : ∀ (f pos : Nat), s.size ≤ pos + f → (decide (0 ≤ idxFuncFrom oddR true s f pos)) = !((s.data.toList.drop pos).all okByte)
  | 0, pos, h => by
    have : s.data.toList.length ≤ pos := by simpa using h
    rw [List.drop_of_length_le this]
    simp [idxFuncFrom]
  | f + 1, pos, h => by
    unfold idxFuncFrom
    by_cases hp : pos < s.size
    · rw [if_pos hp]
      have hd : s.data.toList.drop pos = s[pos]'hp :: s.data.toList.drop (pos + 1) := by
        have := List.drop_eq_getElem_cons (l := s.data.toList) (i := pos) (by simpa using hp)
        rw [this]
        rfl
      rw [hd, List.all_cons, okByte_odd]
      by_cases ha : (s[pos]'hp).toNat < 128
      · rw [decode_ascii s pos hp ha]
        simp only
        by_cases ho : oddR (s[pos]'hp).toNat = true
        · rw [if_pos ho, ho]; simp
        · rw [if_neg ho, Bool.not_eq_true _ |>.mp ho]
          simp only [Bool.not_false, Bool.true_and]
          exact idx_names s f (pos + 1) (by omega)
      · have h1 := (decode_high s pos hp (by omega)).1
        have ho1 : oddR (Utf8.decode s pos).1 = true := by simp [oddR]; omega
        have ho2 : oddR (s[pos]'hp).toNat = true := by simp [oddR]; omega
        rw [if_pos ho1, ho2]
        simp
    · rw [if_neg hp]
      have : s.data.toList.length ≤ pos := by simpa using hp
      rw [List.drop_of_length_le this]
      simp

theorem eg_odd : ∀ args w, (callFunc 28 args).run Try.prog w = .ok (.enter 28 args) w := enters_of Try.func28 (by kernel_rfl) rfl

/-- IsName. -/
theorem isName_walk (s : ByteArray) (w : World) : Calls Try.prog 9 #[.string s] w fun e w' => e = .returned (.bool (isNm s.data.toList)) ∧ Kept [] w w' := by
  have hC := fun W => sh_strings_ContainsFunc 28 #[] eg_odd oddR s W (odd_pred W)
  have hr := idx_names s s.size 0 (by omega)
  rw [List.drop_zero] at hr
  have hlen : s.data.toList.length = s.size := by simp
  have hN : Hid (isNm s.data.toList = (decide (1 ≤ s.size) && decide (s.size ≤ 16) && s.data.toList.all okByte)) := Lib.hid (by unfold isNm; rw [hlen])
  have hR : Hid (decide (0 ≤ idxFunc oddR true s) = !(s.data.toList.all okByte)) := Lib.hid hr
  clear hr hlen
  have hsz : s.data.toList.length = s.size := by simp
  by_cases h0 : s.size = 0
  · have tE : s.toList.isEmpty = true := by rw [ByteArray.toList_eq]; cases hl : s.data.toList with | nil => rfl | cons _ _ => rw [hl] at hsz; simp at hsz; omega
    have tE2 : (s.toList = []) ↔ True := by simpa using tE
    clear hsz
    have h0' := Lib.hid h0
    clear h0
    go_enter Try.func9, Try.ntmps9
    go_wp2
    go_ret
    refine ⟨?_, (Kept.refl _ w).drewN 0⟩
    rw [hN.out, h0'.out]
    rfl
  · have h1 : 1 ≤ s.size := by omega
    have tE : s.toList.isEmpty = false := by rw [ByteArray.toList_eq]; cases hl : s.data.toList with | nil => rw [hl] at hsz; simp at hsz; omega | cons _ _ => rfl
    have tE2 : (s.toList = []) ↔ False := by simpa using tE
    clear hsz
    by_cases h2 : s.size ≤ 16
    · have hb2 : ((s.size : Int) ≤ 16) ↔ True := by simp; omega
      clear h0
      go_enter Try.func9, Try.ntmps9
      go_wp2_with (go_at_call 29; refine (hC _).mono ?_; rintro e w' ⟨rfl, hb⟩)
      rw [hR.out]
      go_wp2
      go_ret
      refine ⟨?_, .of_below hb⟩
      rw [hN.out, decide_eq_true h1, decide_eq_true h2]
      simp
    · have hb2 : ((s.size : Int) ≤ 16) ↔ False := by simp; omega
      clear h0
      go_enter Try.func9, Try.ntmps9
      go_wp2
      go_ret
      refine ⟨?_, (Kept.refl _ w).drewN 0⟩
      rw [hN.out, decide_eq_false h2]
      simp

end Go.Proofs.Ytbankfdgoolbdaa
