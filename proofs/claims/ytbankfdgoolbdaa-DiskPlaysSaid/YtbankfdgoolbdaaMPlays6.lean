/- The reference's IsName walked.
Scripts told plainly, and what DiskLasts, DiskPrefix and DiskCuts say of them. Nothing is claimed of a program here.
What a statement's row wants of any walk that leaves all that was there as it was; strings, bytes, fates and scripts that came in, opened to their cells. Nothing is claimed of a program's calls here. -/
import Derived.Test.YtbankfdgoolbdaaMPlays5
import Derived.Test.YtbankfdgoolbdaaMPlays4
import Derived.Test.YtbankfdgoolbdaaRows
import Derived.WalkKit
import Derived.ProofKit
import Derived.OpenShut
import Derived.ChangeOld
import Derived.SizedLaws
import Derived.Deep.DeepHandedRow
import Derived.Deep.Slices
import Derived.ChangeMaps5
namespace Go.Proofs.Ytbankfdgoolbdaa
open Go Go.RowKit Go.Lib
set_option linter.unusedVariables false

theorem okByte_nat (c : UInt8) : okByte c = (decide (97 ≤ c.toNat ∧ c.toNat ≤ 122) || decide (65 ≤ c.toNat ∧ c.toNat ≤ 90) || decide (48 ≤ c.toNat ∧ c.toNat ≤ 57) || decide (c.toNat = 45) || decide (c.toNat = 46)) := by
  have h := c.toNat_lt
  have e1 : ∀ k : UInt8, (k ≤ c) = (k.toNat ≤ c.toNat) := fun k => propext UInt8.le_iff_toNat_le
  have e2 : ∀ k : UInt8, (c ≤ k) = (c.toNat ≤ k.toNat) := fun k => propext UInt8.le_iff_toNat_le
  have e3 : ∀ k : UInt8, (c == k) = (c.toNat == k.toNat) := fun k => by
    rw [Bool.eq_iff_iff]; simp [UInt8.toNat_inj]
  unfold okByte
  simp only [e1, e2, e3]
  rw [Bool.eq_iff_iff]
  simp

theorem take_all (s : ByteArray) (i : Nat) (hi : i < s.size) : (s.data.toList.take (i + 1)).all okByte = ((s.data.toList.take i).all okByte && okByte (s[i]'hi)) := by
  have hl : i < s.data.toList.length := by simpa using hi
  rw [List.take_succ_eq_append_getElem hl, List.all_append]
  simp
  rfl

theorem all_cut (s : ByteArray) (i : Nat) (hi : i < s.size) (h : okByte (s[i]'hi) = false) : s.data.toList.all okByte = false := by
  rw [List.all_eq_false]
  exact ⟨s[i]'hi, by
    have : (s[i]'hi) = s.data.toList[i]'(by simpa using hi) := by simp; rfl
    rw [this]
    exact List.getElem_mem _, by simp [h]⟩

set_option maxHeartbeats 4000000 in
theorem refName_walk (s : ByteArray) (w : World) (hs : s.size ≤ maxLen) : Calls Try.prog 10 #[.string s] w fun e w' => e = .returned (.bool (isNm s.data.toList)) ∧ Kept [] w w' := by
  have hlen : s.data.toList.length = s.size := by simp
  have hN : Hid (isNm s.data.toList = (decide (1 ≤ s.size) && decide (s.size ≤ 16) && s.data.toList.all okByte)) := Lib.hid (by unfold isNm; rw [hlen])
  have hbig : s.size ≤ 9223372036854775807 := hs
  clear hlen hs
  go_enter Try.func10, Try.ntmps10
  go_wp2_with fail
  go_loopg [3] s.size (fun kk iv wr => ∃ i : Nat, i ≤ s.size ∧ kk = s.size - i ∧ iv = .int .i64 i ∧ (s.data.toList.take i).all okByte = true ∧ Kept [] w wr)
  case atStart => exact ⟨0, Nat.zero_le _, rfl, rfl, by simp, Kept.refl _ _⟩
  case round =>
    obtain ⟨i, hi, hkk, rfl, hall, hK⟩ := hrel
    have HKK := Lib.hid hkk
    have HK := Lib.hid hK
    have HAL := Lib.hid hall
    clear hkk hK hall
    by_cases hlt : i < s.size
    · have d1 : ((i : Int) < (s.size : Int)) ↔ True := by simp; omega
      have hta := Lib.hid (take_all s i hlt)
      have hb := (s[i]'hlt).toNat_lt
      have hok := Lib.hid (okByte_nat (s[i]'hlt))
      generalize hcq : (s[i]'hlt) = c at *
      generalize hnq : c.toNat = n at *
      by_cases h44 : n < 45
      · have hk : okByte c = false := by rw [hok.out]; simp; omega
        have c0 : (97 ≤ (n : Int)) ↔ False := by simp; omega
        have c1 : ((n : Int) ≤ 122) ↔ True := by simp; omega
        have c2 : (65 ≤ (n : Int)) ↔ False := by simp; omega
        have c3 : ((n : Int) ≤ 90) ↔ True := by simp; omega
        have c4 : (48 ≤ (n : Int)) ↔ False := by simp; omega
        have c5 : ((n : Int) ≤ 57) ↔ True := by simp; omega
        have c6 : ((n : Int) == 45) = false := by simp; omega
        have c7 : ((n : Int) == 46) = false := by simp; omega
        have HKB := Lib.hid hk
        clear h44 hk hb
        go_wp2_with fail
        go_ret
        refine ⟨?_, HK.out⟩
        rw [hN.out, all_cut s i hlt (hcq ▸ HKB.out)]
        simp
      by_cases h45 : n = 45
      · have hk : okByte c = true := by rw [hok.out]; simp; omega
        have c0 : (97 ≤ (n : Int)) ↔ False := by simp; omega
        have c1 : ((n : Int) ≤ 122) ↔ True := by simp; omega
        have c2 : (65 ≤ (n : Int)) ↔ False := by simp; omega
        have c3 : ((n : Int) ≤ 90) ↔ True := by simp; omega
        have c4 : (48 ≤ (n : Int)) ↔ False := by simp; omega
        have c5 : ((n : Int) ≤ 57) ↔ True := by simp; omega
        have c6 : ((n : Int) == 45) = true := by simp; omega
        have c7 : ((n : Int) == 46) = false := by simp; omega
        have HKB := Lib.hid hk
        clear h45 hk hb
        go_wp2_with fail
        go_roundg (s.size - (i + 1))
        case measure => rw [HKK.out]; omega
        case rel => exact ⟨i + 1, by omega, rfl, by go_num, by rw [hta.out, HAL.out, HKB.out]; rfl, HK.out⟩
      by_cases h46 : n = 46
      · have hk : okByte c = true := by rw [hok.out]; simp; omega
        have c0 : (97 ≤ (n : Int)) ↔ False := by simp; omega
        have c1 : ((n : Int) ≤ 122) ↔ True := by simp; omega
        have c2 : (65 ≤ (n : Int)) ↔ False := by simp; omega
        have c3 : ((n : Int) ≤ 90) ↔ True := by simp; omega
        have c4 : (48 ≤ (n : Int)) ↔ False := by simp; omega
        have c5 : ((n : Int) ≤ 57) ↔ True := by simp; omega
        have c6 : ((n : Int) == 45) = false := by simp; omega
        have c7 : ((n : Int) == 46) = true := by simp; omega
        have HKB := Lib.hid hk
        clear h46 hk hb
        go_wp2_with fail
        go_roundg (s.size - (i + 1))
        case measure => rw [HKK.out]; omega
        case rel => exact ⟨i + 1, by omega, rfl, by go_num, by rw [hta.out, HAL.out, HKB.out]; rfl, HK.out⟩
      by_cases h47 : n = 47
      · have hk : okByte c = false := by rw [hok.out]; simp; omega
        have c0 : (97 ≤ (n : Int)) ↔ False := by simp; omega
        have c1 : ((n : Int) ≤ 122) ↔ True := by simp; omega
        have c2 : (65 ≤ (n : Int)) ↔ False := by simp; omega
        have c3 : ((n : Int) ≤ 90) ↔ True := by simp; omega
        have c4 : (48 ≤ (n : Int)) ↔ False := by simp; omega
        have c5 : ((n : Int) ≤ 57) ↔ True := by simp; omega
        have c6 : ((n : Int) == 45) = false := by simp; omega
        have c7 : ((n : Int) == 46) = false := by simp; omega
        have HKB := Lib.hid hk
        clear h47 hk hb
        go_wp2_with fail
        go_ret
        refine ⟨?_, HK.out⟩
        rw [hN.out, all_cut s i hlt (hcq ▸ HKB.out)]
        simp
      by_cases h50 : 48 ≤ n ∧ n ≤ 57
      · have hk : okByte c = true := by rw [hok.out]; simp; omega
        have c0 : (97 ≤ (n : Int)) ↔ False := by simp; omega
        have c1 : ((n : Int) ≤ 122) ↔ True := by simp; omega
        have c2 : (65 ≤ (n : Int)) ↔ False := by simp; omega
        have c3 : ((n : Int) ≤ 90) ↔ True := by simp; omega
        have c4 : (48 ≤ (n : Int)) ↔ True := by simp; omega
        have c5 : ((n : Int) ≤ 57) ↔ True := by simp; omega
        have c6 : ((n : Int) == 45) = false := by simp; omega
        have c7 : ((n : Int) == 46) = false := by simp; omega
        have HKB := Lib.hid hk
        clear h50 hk hb
        go_wp2_with fail
        go_roundg (s.size - (i + 1))
        case measure => rw [HKK.out]; omega
        case rel => exact ⟨i + 1, by omega, rfl, by go_num, by rw [hta.out, HAL.out, HKB.out]; rfl, HK.out⟩
      by_cases h60 : 58 ≤ n ∧ n ≤ 64
      · have hk : okByte c = false := by rw [hok.out]; simp; omega
        have c0 : (97 ≤ (n : Int)) ↔ False := by simp; omega
        have c1 : ((n : Int) ≤ 122) ↔ True := by simp; omega
        have c2 : (65 ≤ (n : Int)) ↔ False := by simp; omega
        have c3 : ((n : Int) ≤ 90) ↔ True := by simp; omega
        have c4 : (48 ≤ (n : Int)) ↔ True := by simp; omega
        have c5 : ((n : Int) ≤ 57) ↔ False := by simp; omega
        have c6 : ((n : Int) == 45) = false := by simp; omega
        have c7 : ((n : Int) == 46) = false := by simp; omega
        have HKB := Lib.hid hk
        clear h60 hk hb
        go_wp2_with fail
        go_ret
        refine ⟨?_, HK.out⟩
        rw [hN.out, all_cut s i hlt (hcq ▸ HKB.out)]
        simp
      by_cases h70 : 65 ≤ n ∧ n ≤ 90
      · have hk : okByte c = true := by rw [hok.out]; simp; omega
        have c0 : (97 ≤ (n : Int)) ↔ False := by simp; omega
        have c1 : ((n : Int) ≤ 122) ↔ True := by simp; omega
        have c2 : (65 ≤ (n : Int)) ↔ True := by simp; omega
        have c3 : ((n : Int) ≤ 90) ↔ True := by simp; omega
        have c4 : (48 ≤ (n : Int)) ↔ True := by simp; omega
        have c5 : ((n : Int) ≤ 57) ↔ False := by simp; omega
        have c6 : ((n : Int) == 45) = false := by simp; omega
        have c7 : ((n : Int) == 46) = false := by simp; omega
        have HKB := Lib.hid hk
        clear h70 hk hb
        go_wp2_with fail
        go_roundg (s.size - (i + 1))
        case measure => rw [HKK.out]; omega
        case rel => exact ⟨i + 1, by omega, rfl, by go_num, by rw [hta.out, HAL.out, HKB.out]; rfl, HK.out⟩
      by_cases h93 : 91 ≤ n ∧ n ≤ 96
      · have hk : okByte c = false := by rw [hok.out]; simp; omega
        have c0 : (97 ≤ (n : Int)) ↔ False := by simp; omega
        have c1 : ((n : Int) ≤ 122) ↔ True := by simp; omega
        have c2 : (65 ≤ (n : Int)) ↔ True := by simp; omega
        have c3 : ((n : Int) ≤ 90) ↔ False := by simp; omega
        have c4 : (48 ≤ (n : Int)) ↔ True := by simp; omega
        have c5 : ((n : Int) ≤ 57) ↔ False := by simp; omega
        have c6 : ((n : Int) == 45) = false := by simp; omega
        have c7 : ((n : Int) == 46) = false := by simp; omega
        have HKB := Lib.hid hk
        clear h93 hk hb
        go_wp2_with fail
        go_ret
        refine ⟨?_, HK.out⟩
        rw [hN.out, all_cut s i hlt (hcq ▸ HKB.out)]
        simp
      by_cases h100 : 97 ≤ n ∧ n ≤ 122
      · have hk : okByte c = true := by rw [hok.out]; simp; omega
        have c0 : (97 ≤ (n : Int)) ↔ True := by simp; omega
        have c1 : ((n : Int) ≤ 122) ↔ True := by simp; omega
        have c2 : (65 ≤ (n : Int)) ↔ True := by simp; omega
        have c3 : ((n : Int) ≤ 90) ↔ False := by simp; omega
        have c4 : (48 ≤ (n : Int)) ↔ True := by simp; omega
        have c5 : ((n : Int) ≤ 57) ↔ False := by simp; omega
        have c6 : ((n : Int) == 45) = false := by simp; omega
        have c7 : ((n : Int) == 46) = false := by simp; omega
        have HKB := Lib.hid hk
        clear h100 hk hb
        go_wp2_with fail
        go_roundg (s.size - (i + 1))
        case measure => rw [HKK.out]; omega
        case rel => exact ⟨i + 1, by omega, rfl, by go_num, by rw [hta.out, HAL.out, HKB.out]; rfl, HK.out⟩
      by_cases h123 : 123 ≤ n
      · have hk : okByte c = false := by rw [hok.out]; simp; omega
        have c0 : (97 ≤ (n : Int)) ↔ True := by simp; omega
        have c1 : ((n : Int) ≤ 122) ↔ False := by simp; omega
        have c2 : (65 ≤ (n : Int)) ↔ True := by simp; omega
        have c3 : ((n : Int) ≤ 90) ↔ False := by simp; omega
        have c4 : (48 ≤ (n : Int)) ↔ True := by simp; omega
        have c5 : ((n : Int) ≤ 57) ↔ False := by simp; omega
        have c6 : ((n : Int) == 45) = false := by simp; omega
        have c7 : ((n : Int) == 46) = false := by simp; omega
        have HKB := Lib.hid hk
        clear h123 hk hb
        go_wp2_with fail
        go_ret
        refine ⟨?_, HK.out⟩
        rw [hN.out, all_cut s i hlt (hcq ▸ HKB.out)]
        simp
      omega
    · have d1 : ((i : Int) < (s.size : Int)) ↔ False := by simp; omega
      obtain rfl : i = s.size := by omega
      have hfull : (s.data.toList.take s.size) = s.data.toList := List.take_of_length_le (by simp)
      rw [hfull] at HAL
      clear hfull
      by_cases h1 : 1 ≤ s.size
      · have d2 : ((1 : Int) ≤ (s.size : Int)) ↔ True := by simp; omega
        by_cases h2 : s.size ≤ 16
        · have d3 : ((s.size : Int) ≤ 16) ↔ True := by simp; omega
          have HF := Lib.hid (hN.out.trans (show _ = true by rw [HAL.out, decide_eq_true h1, decide_eq_true h2]; rfl))
          clear h1 h2
          go_wp2_with fail
          go_ret
          exact ⟨by rw [HF.out]; rfl, HK.out⟩
        · have d3 : ((s.size : Int) ≤ 16) ↔ False := by simp; omega
          have HF := Lib.hid (hN.out.trans (show _ = false by rw [decide_eq_false h2]; simp))
          clear h1 h2
          go_wp2_with fail
          go_ret
          exact ⟨by rw [HF.out]; rfl, HK.out⟩
      · have d2 : ((1 : Int) ≤ (s.size : Int)) ↔ False := by simp; omega
        have HF := Lib.hid (hN.out.trans (show _ = false by rw [decide_eq_false h1]; rfl))
        clear h1
        go_wp2_with fail
        go_ret
        exact ⟨by rw [HF.out]; rfl, HK.out⟩
end Go.Proofs.Ytbankfdgoolbdaa
namespace Go.Proofs.Ytbankfdgoolbdaa
open Go
set_option linter.unusedVariables false

/-- An operation of a script. -/
structure DOp where
  kind : Int
  s : ByteArray
  t : ByteArray
  b : List UInt8
  n : Int
  keep : Int
  dirs : Int
  tear : Int

def pickN (c : Int) (n : Nat) : Nat := ((if c < 0 then -(c + 1) else c) % (n : Int)).toNat

def ADk.actK (a : ADk) (p : Nat) (o : DOp) : ADk :=
  match p with
  | 0 => (a.append o.s.data.toList o.b).2
  | 2 => (a.sync o.s.data.toList).2
  | 3 => (a.rename o.s.data.toList o.t.data.toList).2
  | 4 => (a.delete o.s.data.toList).2
  | 5 => a.syncDir.2
  | _ => a

def ADk.act (a : ADk) (o : DOp) : ADk := a.actK (pickN o.kind 9) o

/-- The first n operations of a script. -/
def playN (f : Nat → DOp) : Nat → ADk → ADk
  | 0, a => a
  | n + 1, a => (playN f n a).act (f n)

theorem ADk.act_ok {a : ADk} (h : a.Ok) (o : DOp) : (a.act o).Ok := by
  unfold ADk.act ADk.actK
  split
  · exact a.append_ok h _ _
  · exact a.sync_ok h _
  · exact a.rename_ok h _ _
  · exact a.delete_ok h _
  · exact a.syncDir_ok h
  · exact h

theorem playN_ok {a : ADk} (h : a.Ok) (f : Nat → DOp) : ∀ n, (playN f n a).Ok
  | 0 => h
  | n + 1 => (playN f n a).act_ok (playN_ok h f n) _

/-- The power is on, and will be. -/
def ADk.Lit (a : ADk) : Prop := a.off = false ∧ a.cut < 0

theorem ADk.Lit.powered {a : ADk} (h : a.Lit) : a.powered = a := by
  obtain ⟨h1, h2⟩ := h
  unfold ADk.powered
  have : (a.off || (decide (0 ≤ a.cut) && decide (a.cut ≤ a.ops))) = a.off := by
    rw [show decide (0 ≤ a.cut) = false by simp; omega]; simp
  rw [this]

/-- What an operation changes: at most one more operation is counted; the power stays on. -/
theorem ADk.act_lit {a : ADk} (h : a.Lit) (o : DOp) : (a.act o).Lit ∧ (a.act o).ops ≤ a.ops + 1 := by
  have hp := h.powered
  unfold ADk.act ADk.actK
  split
  · unfold ADk.append
    simp only [hp]
    split
    · exact ⟨h, Nat.le_succ _⟩
    · split
      · split
        · exact ⟨h, Nat.le_succ _⟩
        · exact ⟨h, Nat.le_refl _⟩
      · split
        · exact ⟨h, Nat.le_succ _⟩
        · exact ⟨h, Nat.le_refl _⟩
  · unfold ADk.sync
    simp only [hp]
    split
    · exact ⟨h, Nat.le_succ _⟩
    · split
      · exact ⟨h, Nat.le_succ _⟩
      · exact ⟨h, Nat.le_refl _⟩
  · unfold ADk.rename
    simp only [hp]
    split
    · exact ⟨h, Nat.le_succ _⟩
    · exact ⟨h, Nat.le_refl _⟩
  · unfold ADk.delete
    simp only [hp]
    split
    · exact ⟨h, Nat.le_succ _⟩
    · exact ⟨h, Nat.le_refl _⟩
  · unfold ADk.syncDir
    simp only [hp]
    split
    · exact ⟨h, Nat.le_succ _⟩
    · exact ⟨h, Nat.le_refl _⟩
  · exact ⟨h, Nat.le_succ _⟩

theorem playN_lit {a : ADk} (h : a.Lit) (f : Nat → DOp) : ∀ n, (playN f n a).Lit ∧ (playN f n a).ops ≤ a.ops + n
  | 0 => ⟨h, Nat.le_refl _⟩
  | n + 1 => by
    have h1 := playN_lit h f n
    have h2 := (playN f n a).act_lit h1.1 (f n)
    exact ⟨h2.1, by have := h1.2; have := h2.2; show ((playN f n a).act (f n)).ops ≤ _; omega⟩

theorem new_lit : ADk.new.Lit := ⟨rfl, by decide⟩

/-! ### find, put, del -/
section
variable {α : Type}
theorem find_del_same (l : List (Nm × α)) (s : Nm) : alFind (alDel l s) s = none := by
  unfold alFind alDel
  rw [Option.map_eq_none_iff, List.find?_eq_none]
  intro p hp
  have := (List.mem_filter.1 hp).2
  simpa using this
theorem find_del_ne (l : List (Nm × α)) {s t : Nm} (h : t ≠ s) : alFind (alDel l s) t = alFind l t := by
  unfold alFind alDel
  congr 1
  induction l with
  | nil => rfl
  | cons x r ih =>
    rw [List.filter_cons]
    by_cases hx : x.1 = s
    · rw [if_neg (by simp [hx]), ih, List.find?_cons]
      have : (x.1 == t) = false := by rw [hx]; simpa using fun e => h e.symm
      rw [this]
    · rw [if_pos (by simpa using hx), List.find?_cons, List.find?_cons, ih]
theorem find_ins (x : Nm × α) (l : List (Nm × α)) (hx : ∀ p ∈ l, p.1 ≠ x.1) (t : Nm) : alFind (alIns x l) t = if x.1 = t then some x.2 else alFind l t := by
  induction l with
  | nil =>
    unfold alIns alFind
    rw [List.find?_cons]
    by_cases e : x.1 = t
    · rw [if_pos e, show (x.1 == t) = true by simpa using e]; rfl
    · rw [if_neg e, show (x.1 == t) = false by simpa using e]
  | cons y r ih =>
    have ih := ih fun p hp => hx p (by simp [hp])
    unfold alIns
    split
    · unfold alFind
      rw [List.find?_cons]
      by_cases e : x.1 = t
      · rw [if_pos e, show (x.1 == t) = true by simpa using e]; rfl
      · rw [if_neg e, show (x.1 == t) = false by simpa using e]
    · have hy := hx y (by simp)
      unfold alFind at ih ⊢
      rw [List.find?_cons, List.find?_cons]
      by_cases e : y.1 = t
      · rw [show (y.1 == t) = true by simpa using e]
        have : ¬ x.1 = t := fun e' => hy (e.trans e'.symm)
        rw [if_neg this]
      · rw [show (y.1 == t) = false by simpa using e]
        exact ih
theorem find_put_same (l : List (Nm × α)) (s : Nm) (v : α) : alFind (alPut l s v) s = some v := by
  unfold alPut
  rw [find_ins _ _ (fun p hp => by simpa [alDel] using (List.mem_filter.1 hp).2), if_pos rfl]
theorem find_put_ne (l : List (Nm × α)) {s t : Nm} (v : α) (h : t ≠ s) : alFind (alPut l s v) t = alFind l t := by
  unfold alPut
  rw [find_ins _ _ (fun p hp => by simpa [alDel] using (List.mem_filter.1 hp).2), if_neg fun e => h e.symm, find_del_ne _ h]
end

/-- A change that doesn't speak of a name. -/
def Chg.apart (nm : Nm) : Chg → Prop
  | .mk s _ => s ≠ nm
  | .del s => s ≠ nm
  | .ren s t => s ≠ nm ∧ t ≠ nm

theorem on_apart {c : Chg} {l l' : Dir} {nm : Nm} (h : c.on l = some l') (hc : c.apart nm) : alFind l' nm = alFind l nm := by
  cases c with
  | mk s i =>
    simp only [Chg.on] at h
    split at h
    · cases h; exact find_put_ne _ _ (Ne.symm hc)
    · cases h
  | del s => cases h; exact find_del_ne _ (Ne.symm hc)
  | ren s t =>
    simp only [Chg.on, Option.map_eq_some_iff] at h
    obtain ⟨i, _, rfl⟩ := h
    rw [find_put_ne _ _ (Ne.symm hc.2), find_del_ne _ (Ne.symm hc.1)]

theorem runLog_apart {nm : Nm} : ∀ (L : List Chg) (l l' : Dir), (∀ c ∈ L, c.apart nm) → runLog l L = some l' → alFind l' nm = alFind l nm
  | [], l, l', _, h => by cases h; rfl
  | c :: r, l, l', hc, h => by
    simp only [runLog, Option.bind_eq_some_iff] at h
    obtain ⟨m, h1, h2⟩ := h
    rw [runLog_apart r m l' (fun c' hc' => hc c' (by simp [hc'])) h2, on_apart h1 (hc c (by simp))]

/-- A name and its file stay, whatever is lost. -/
structure Lasting (a : ADk) (nm : Nm) (b : List UInt8) (i : Nat) : Prop where
  old : alFind a.old nm = some i
  now : alFind a.now nm = some i
  file : a.file i = ⟨b, b.length⟩
  log : ∀ c ∈ a.log, c.apart nm
  alone : ∀ p ∈ a.now, p.2 = i → p.1 = nm

theorem file_set {a : ADk} {i j : Nat} {x : AFile} (h : i ≠ j) : ({ a with fs := a.fs.set i x } : ADk).file j = a.file j := by
  unfold ADk.file
  rw [List.getD_eq_getElem?_getD, List.getD_eq_getElem?_getD, List.getElem?_set, if_neg h]

theorem Lasting.change {a : ADk} {nm : Nm} {b : List UInt8} {i : Nat} (h : Lasting a nm b i) {c : Chg} {l' : Dir} (hl : c.on a.now = some l') (hc : c.apart nm) (hi : ∀ s j, c = .mk s j → j ≠ i) : Lasting (a.change c) nm b i := by
  refine ⟨h.old, ?_, h.file, ?_, ?_⟩
  · show alFind ((c.on a.now).getD a.now) nm = _
    rw [hl]
    exact (on_apart hl hc).trans h.now
  · intro c' hc'
    rcases List.mem_append.1 hc' with h' | h'
    · exact h.log c' h'
    · simp at h'; subst h'; exact hc
  · intro p hp
    change p ∈ (c.on a.now).getD a.now at hp
    rw [hl] at hp
    change p ∈ l' at hp
    cases c with
    | mk s j =>
      simp only [Chg.on] at hl
      split at hl
      · cases hl
        rcases mem_alPut.1 hp with rfl | ⟨hp, _⟩
        · intro e; exact absurd e (hi s j rfl)
        · exact h.alone p hp
      · cases hl
    | del s => cases hl; exact h.alone p (List.mem_filter.1 hp).1
    | ren s t =>
      simp only [Chg.on, Option.map_eq_some_iff] at hl
      obtain ⟨j, hj, rfl⟩ := hl
      rcases mem_alPut.1 hp with rfl | ⟨hp, _⟩
      · intro e
        have e : j = i := e
        subst e
        exact absurd (h.alone _ (alFind_mem hj) rfl) hc.1
      · exact h.alone p (List.mem_filter.1 hp).1

theorem Lasting.did {a : ADk} {nm : Nm} {b : List UInt8} {i : Nat} (h : Lasting a nm b i) : Lasting a.did nm b i := ⟨h.old, h.now, h.file, h.log, h.alone⟩

theorem Lasting.set {a : ADk} {nm : Nm} {b : List UInt8} {i j : Nat} {x : AFile} (h : Lasting a nm b i) (hj : j ≠ i) : Lasting { a with fs := a.fs.set j x } nm b i :=
  ⟨h.old, h.now, by rw [file_set hj]; exact h.file, h.log, h.alone⟩

theorem Lasting.more {a : ADk} {nm : Nm} {b : List UInt8} {i : Nat} {x : AFile} (h : Lasting a nm b i) (hi : i < a.fs.length) : Lasting { a with fs := a.fs ++ [x] } nm b i := by
  refine ⟨h.old, h.now, ?_, h.log, h.alone⟩
  have := h.file
  unfold ADk.file at this ⊢
  rw [List.getD_eq_getElem?_getD] at this ⊢
  rw [List.getElem?_append_left hi]
  exact this

theorem Lasting.lt {a : ADk} {nm : Nm} {b : List UInt8} {i : Nat} (h : Lasting a nm b i) (hok : a.Ok) : i < a.fs.length := hok.now.ids _ (alFind_mem h.now)

/-- Whatever is done to other names. -/
theorem Lasting.act {a : ADk} {nm : Nm} {b : List UInt8} {i : Nat} (h : Lasting a nm b i) (hok : a.Ok) (hlit : a.Lit) (o : DOp) (hs : o.s.data.toList ≠ nm) (ht : o.t.data.toList ≠ nm) : Lasting (a.act o) nm b i := by
  have hp := hlit.powered
  have hlt := h.lt hok
  have other : ∀ {s j}, s ≠ nm → alFind a.now s = some j → j ≠ i := fun hs hj e => hs (h.alone _ (alFind_mem hj) e)
  unfold ADk.act ADk.actK
  split
  · unfold ADk.append
    simp only [hp]
    split
    · exact h
    · split
      · rename_i hn
        split
        · exact h
        · rename_i hc
          have h1 := h.more (x := AFile.mk o.b 0) hlt
          refine (h1.change (c := .mk o.s.data.toList a.fs.length) (l' := alPut a.now o.s.data.toList a.fs.length) ?_ hs (fun s j e => by cases e; omega)).did
          show (if (alFind a.now o.s.data.toList).isNone && decide (a.now.length < 64) then _ else _) = _
          rw [hn, if_pos (by simp; omega)]
      · rename_i j hj
        split
        · exact h
        · exact (h.set (other hs hj)).did
  · unfold ADk.sync
    simp only [hp]
    split
    · exact h
    · split
      · exact h
      · rename_i j hj
        exact (h.set (other hs hj)).did
  · unfold ADk.rename
    simp only [hp]
    split
    · exact h
    · rename_i hb
      obtain ⟨_, _, h3, _⟩ := bad_off (Classical.not_not.1 hb)
      obtain ⟨j, hj⟩ := Option.isSome_iff_exists.1 (h3 rfl)
      simp only [List.headD_cons] at hj
      exact (h.change (c := .ren o.s.data.toList o.t.data.toList) (l' := alPut (alDel a.now o.s.data.toList) o.t.data.toList j) (by simp only [Chg.on, hj, Option.map_some]) ⟨hs, ht⟩ (fun _ _ e => by cases e)).did
  · unfold ADk.delete
    simp only [hp]
    split
    · exact h
    · exact (h.change (c := .del o.s.data.toList) (l' := alDel a.now o.s.data.toList) rfl hs (fun _ _ e => by cases e)).did
  · unfold ADk.syncDir
    simp only [hp]
    split
    · exact h
    · exact ⟨h.now, h.now, h.file, by simp [ADk.did], h.alone⟩
  · exact h

/-! ### what a crash leaves, read -/
theorem zip_find {l : Dir} (hr : Rising l) {j : Nat} (hj : j < l.length) : alFind ((l.map (·.1)).zipIdx) (nmAt l j) = some j :=
  (numbered_rising hr).find (List.mem_of_getElem? (numbered_get hj))

theorem crash_eq {a : ADk} {l : Dir} (dirs : Int) (hl : runLog a.old (a.log.take dirs.toNat) = some l) (keep tear : Int) : a.crash keep dirs tear = ⟨l.map fun p => (a.file p.2).left keep tear, numbered l, numbered l, [], 0, -1, false⟩ := by
  unfold ADk.crash numbered
  rw [hl]
  rfl

theorem crash_read {a : ADk} {l : Dir} {dirs : Int} (hl : runLog a.old (a.log.take dirs.toNat) = some l) (hd : DirOk a l) (keep tear : Int) {j : Nat} (hj : j < l.length) :
    (a.crash keep dirs tear).read (nmAt l j) = (((a.file (l.getD j ([], 0)).2).left keep tear).b, 0) := by
  rw [crash_eq dirs hl]
  unfold ADk.read
  have hn : isNm (nmAt l j) = true := hd.nms (l.getD j ([], 0)) (by rw [List.getD_eq_getElem?_getD, List.getElem?_eq_getElem hj]; exact List.getElem_mem hj)
  simp only [hn]
  rw [show alFind (numbered l) (nmAt l j) = some j from zip_find hd.rise hj]
  simp only [ADk.file, List.getD_eq_getElem?_getD, List.getElem?_map, List.getElem?_eq_getElem hj, Option.map_some, Option.getD_some]
  rfl

theorem left_last (b : List UInt8) (keep tear : Int) : (AFile.left ⟨b, b.length⟩ keep tear).b = b := by
  unfold AFile.left clamp
  simp

theorem Lasting.crash {a : ADk} {nm : Nm} {b : List UInt8} {i : Nat} (h : Lasting a nm b i) (hok : a.Ok) (keep dirs tear : Int) : (a.crash keep dirs tear).read nm = (b, 0) := by
  obtain ⟨l, hl, hd⟩ := hok.prefix dirs.toNat
  have hf : alFind l nm = some i := (runLog_apart _ _ _ (fun c hc => h.log c (List.mem_of_mem_take hc)) hl).trans h.old
  obtain ⟨j, hj⟩ := List.mem_iff_getElem?.1 (alFind_mem hf)
  have hjl := (List.getElem?_eq_some_iff.1 hj).1
  have hg : l.getD j ([], 0) = (nm, i) := by rw [List.getD_eq_getElem?_getD, hj]; rfl
  have := crash_read hl hd keep tear hjl
  rw [hg] at this
  rw [show nmAt l j = nm by unfold nmAt; rw [hg], h.file, left_last] at this
  exact this

/-- The beginning of DiskLasts: what the name and its file come to. -/
def ADk.lastA (a : ADk) (nm : Nm) (b : List UInt8) : Int × ADk := (a.delete nm).2.append nm b
def ADk.lastB (a : ADk) (nm : Nm) (b : List UInt8) : Int × ADk := (a.lastA nm b).2.sync nm
def ADk.lastC (a : ADk) (nm : Nm) (b : List UInt8) : Int × ADk := (a.lastB nm b).2.syncDir

theorem delete_lit {a : ADk} (h : a.Lit) (hops : a.ops < 65536) (nm : Nm) (hnm : isNm nm = true) : alFind (a.delete nm).2.now nm = none ∧ (a.delete nm).2.Lit ∧ (a.delete nm).2.ops ≤ a.ops + 1 := by
  have hp := h.powered
  unfold ADk.delete
  simp only [hp]
  split
  · rename_i hb
    refine ⟨?_, h, Nat.le_succ _⟩
    unfold ADk.bad at hb
    rw [if_neg (by simp [h.1]), if_neg (by simp [hnm])] at hb
    cases hf : alFind a.now nm with
    | none => rfl
    | some i =>
      rw [if_neg (by simp [hf]), if_neg (by omega)] at hb
      exact absurd rfl hb
  · exact ⟨find_del_same _ _, h, Nat.le_refl _⟩

theorem last_begins {a : ADk} (hok : a.Ok) (hlit : a.Lit) (hops : a.ops ≤ 1000) (nm : Nm) (hnm : isNm nm = true) (b : List UInt8) :
    ((a.lastA nm b).1 = 23) ∨ ((a.lastA nm b).1 = 0 ∧ (a.lastB nm b).1 = 0 ∧ (a.lastC nm b).1 = 0 ∧ (a.lastC nm b).2.Lit ∧ ∃ i, Lasting (a.lastC nm b).2 nm b i) := by
  obtain ⟨d1, d2, d3⟩ := delete_lit hlit (by omega) nm hnm
  have dok := a.delete_ok hok nm
  unfold ADk.lastC ADk.lastB ADk.lastA
  generalize (a.delete nm).2 = a2 at *
  have hb2 : a2.bad false [nm] = 0 := by
    unfold ADk.bad
    rw [if_neg (by simp [d2.1]), if_neg (by simp [hnm]), if_neg (by simp), if_neg (by omega)]
  have happ : a2.append nm b = (match (none : Option Nat) with
      | none => if 64 ≤ a2.now.length ∨ 262144 < b.length then (23, a2) else (0, (ADk.change { a2 with fs := a2.fs ++ [AFile.mk b 0] } (.mk nm a2.fs.length)).did)
      | some i => (0, a2)) := by
    unfold ADk.append
    simp only [d2.powered, hb2, d1]
    rfl
  simp only at happ
  by_cases hc : 64 ≤ a2.now.length ∨ 262144 < b.length
  · left; rw [happ, if_pos hc]
  · right
    rw [if_neg hc] at happ
    have hon : (Chg.mk nm a2.fs.length).on a2.now = some (alPut a2.now nm a2.fs.length) := by
      show (if (alFind a2.now nm).isNone && decide (a2.now.length < 64) then _ else _) = _
      rw [d1, if_pos (by simp; omega)]
    have hok3 := a2.append_ok dok nm b
    rw [happ] at hok3
    refine ⟨by rw [happ], ?_⟩
    rw [happ]
    -- the disk behind Append
    have hnow3 : (ADk.change { a2 with fs := a2.fs ++ [AFile.mk b 0] } (.mk nm a2.fs.length)).did.now = alPut a2.now nm a2.fs.length := by
      show ((Chg.mk nm a2.fs.length).on a2.now).getD a2.now = _
      rw [hon]; rfl
    have hops3 : (ADk.change { a2 with fs := a2.fs ++ [AFile.mk b 0] } (.mk nm a2.fs.length)).did.ops = a2.ops + 1 := rfl
    have hlit3 : (ADk.change { a2 with fs := a2.fs ++ [AFile.mk b 0] } (.mk nm a2.fs.length)).did.Lit := d2
    have hfs3 : (ADk.change { a2 with fs := a2.fs ++ [AFile.mk b 0] } (.mk nm a2.fs.length)).did.fs = a2.fs ++ [AFile.mk b 0] := rfl
    simp only
    generalize (ADk.change { a2 with fs := a2.fs ++ [AFile.mk b 0] } (.mk nm a2.fs.length)).did = a3 at *
    have hf3 : alFind a3.now nm = some a2.fs.length := by rw [hnow3, find_put_same]
    have hfile3 : a3.file a2.fs.length = ⟨b, 0⟩ := by unfold ADk.file; rw [hfs3]; simp
    have hb3 : a3.bad true [nm] = 0 := by
      unfold ADk.bad
      rw [if_neg (by simp [hlit3.1]), if_neg (by simp [hnm]), if_neg (by simp [hf3]), if_neg (by omega)]
    have hsync : a3.sync nm = (0, { a3 with fs := a3.fs.set a2.fs.length ⟨b, b.length⟩ }.did) := by
      unfold ADk.sync
      simp only [hlit3.powered, hb3, hf3, hfile3]
      rfl
    rw [hsync]
    refine ⟨rfl, ?_⟩
    have hsd : (ADk.did { a3 with fs := a3.fs.set a2.fs.length ⟨b, b.length⟩ }).syncDir = (0, ADk.did { (ADk.did { a3 with fs := a3.fs.set a2.fs.length ⟨b, b.length⟩ }) with old := a3.now, log := [] }) := by
      have hl4 : (ADk.did { a3 with fs := a3.fs.set a2.fs.length ⟨b, b.length⟩ }).Lit := hlit3
      unfold ADk.syncDir
      simp only [hl4.powered]
      rw [if_neg]
      · rfl
      · unfold ADk.bad
        have : (ADk.did { a3 with fs := a3.fs.set a2.fs.length ⟨b, b.length⟩ }).ops = a3.ops + 1 := rfl
        rw [if_neg (by simp [hl4.1]), if_neg (by simp), if_neg (by simp), if_neg (by omega)]
        simp
    simp only
    rw [hsd]
    refine ⟨rfl, hlit3, a2.fs.length, hf3, hf3, ?_, by simp [ADk.did], ?_⟩
    · show ADk.file _ _ = _
      unfold ADk.file
      show (a3.fs.set a2.fs.length ⟨b, b.length⟩).getD a2.fs.length ⟨[], 0⟩ = _
      rw [List.getD_eq_getElem?_getD, List.getElem?_set, if_pos rfl, hfs3]
      simp
    · intro p hp e
      change p ∈ a3.now at hp
      rw [hnow3] at hp
      rcases mem_alPut.1 hp with rfl | ⟨hp, _⟩
      · rfl
      · have := dok.now.ids p hp
        omega

end Go.Proofs.Ytbankfdgoolbdaa
namespace Go.Proofs.Ytbankfdgoolbdaa
open Go Go.ChangeShapes Go.WideShapes Go.ChangeAt Go.RowKit
set_option linter.unusedVariables false

theorem rk_own : ownKnob Try.prog.godebug = none := by kernel_rfl
theorem rk_laidOut : laidOutB Try.prog = true := by kernel_rfl

section
variable {H : Type} {enc : TypeId × Value → H}

theorem below_trodAll {W W' : World} (hb : Below W.heap.size W W') : ∀ {ts : List TypeId} {vs : List Value} {ds : List (DataW H)} {ps : List MemPlace}, (∀ t ∈ ts, Try.prog.readableRec t = true ∧ t < Try.prog.types.size) → DataW.TrodAll enc Try.prog W 0 (fun _ => true) true ts vs ds ps →
    (∀ x ∈ ps, x.block < W.heap.size) → DataW.TrodAll enc Try.prog W' 0 (fun b => decide (b < W.heap.size)) true ts vs ds ps
  | [], vs, ds, ps, _, h, _ => by
    obtain ⟨rfl, rfl, rfl⟩ := trodAll_nil h
    exact trodAll_mk0
  | t :: ts, vs, ds, ps, hr, h, hlt => by
    obtain ⟨v, vs', d, ds', p, q, rfl, rfl, rfl, h1, h2⟩ := trodAll_cons h
    exact trodAll_cons_mk (Below.trod rk_laidOut (hr t (by simp)).1 (hr t (by simp)).2 h1 hb fun x hx => hlt x (by simp [hx])) (below_trodAll hb (fun t' ht' => hr t' (by simp [ht'])) h2 fun x hx => hlt x (by simp [hx]))

/-- A walk that answers true and keeps all that was there proves the row's contract. -/
theorem law_post {f : Func} {s : ChangeSpec} {W W' : World} {args : Array Value} {ds gs : List (DataW H)} {before : List MemPlace}
    (hv : s.vars = []) (hrt : f.resultTypes = #[4]) (hp : ∀ t ∈ f.params.toList, Try.prog.readableRec t = true ∧ t < Try.prog.types.size)
    (hW : DataW.Whole enc Try.prog f.params.toList s.vars false W args.toList ds gs before) (hres : (s.fn H (ds ++ gs)).results = [.lit (.bool true)]) (hargs : (s.fn H (ds ++ gs)).args = ds) (hvars : (s.fn H (ds ++ gs)).vars = [])
    (hk : Kept [] W W') : s.post enc Try.prog f false true false false W args (.bool true) W' := by
  have hb : Below W.heap.size W W' := hk.below (Nat.le_refl _) (by simp)
  have hW' := hW
  have hlt := hW.lt
  obtain ⟨p, q, hA, hV, rfl, hfz, hnd⟩ := hW
  refine ⟨ds, gs, p ++ q, [], p, q, hW', ?_, ?_, ?_, hb.frame _, fun h => by cases h⟩
  · rw [hrt, hres]
    exact trodAll_mk1 (shut_bool Try.underlying4 _)
  · rw [hargs]
    exact below_trodAll hb hp hA fun x hx => hlt x (by simp [hx])
  · rw [hvars, hv]
    rw [hv] at hV
    obtain ⟨rfl, rfl⟩ := trodVars_none hV
    exact hV

theorem addr_add (b off i : Nat) : (⟨b, off, none⟩ : Addr).add i = ⟨b, off + i, none⟩ := by
  simp only [Addr.add]
  split
  · rename_i h; subst h; rfl
  · rfl

theorem i64_in {a : Int} (h : (Lit.int .i64 a).wf = true) : -9223372036854775808 ≤ a ∧ a < 9223372036854775808 := by
  simp only [Lit.wf, Bool.and_eq_true, decide_eq_true_eq] at h
  have e1 : IntKind.i64.min = -9223372036854775808 := by decide
  have e2 : IntKind.i64.max = 9223372036854775807 := by decide
  omega

theorem u8_of {a : Int} (h : (Lit.int .u8 a).wf = true) : ∃ c : UInt8, Value.int .u8 a = byteV c := by
  simp only [Lit.wf, Bool.and_eq_true, decide_eq_true_eq] at h
  have e1 : IntKind.u8.min = 0 := by decide
  have e2 : IntKind.u8.max = 255 := by decide
  refine ⟨UInt8.ofNat a.toNat, ?_⟩
  unfold byteV
  rw [UInt8.toNat_ofNat']
  congr 1
  omega

/-- The cells of a slice that is read, each element by its own type. -/
theorem rows_trod {t e : TypeId} {C : Nat} {W : World} {fuel : Nat} {vcs : List Value} {y : DataW H × List MemPlace} (ht : Try.prog.underlying t = some (.slice e)) (hC : Try.prog.cellsOf e = C) (hC0 : 0 < C)
    (hf : DataW.trod enc Try.prog W 0 (fun _ => true) true fuel t vcs = some y) :
    ∃ p len cap, vcs = [.slice p len cap] ∧ len ≤ cap ∧ cap ≤ maxLen ∧ (p = none → len = 0 ∧ cap = 0) ∧
      (0 < len → ∃ b off, p = some ⟨b, off, none⟩ ∧ b < W.heap.size ∧ ∀ i, i < len → ∃ cs n x, cs.length = C ∧ (∀ j, j < C → W.cell? ⟨b, off + i * C + j, none⟩ = cs[j]?) ∧ DataW.trod enc Try.prog W 0 (fun _ => true) true n e cs = some x) := by
  rcases Go.Deep.open_slice ht hf with ⟨hcs, hx⟩ | ⟨a, len, cap, m, n, D, Pl, hcs, hb, hl, hm, hmm, hx, hi⟩
  · exact ⟨_, _, _, hcs, Nat.le_refl _, Nat.zero_le _, fun _ => ⟨rfl, rfl⟩, by omega⟩
  · refine ⟨_, _, _, hcs, hl, hm, (fun e => by cases e), fun hpos => ?_⟩
    simp only [if_true] at hmm
    obtain ⟨cs0, h0, _⟩ := hi 0 (by omega)
    rw [hC] at h0
    obtain ⟨_, hl0, hc0⟩ := World.cells?_some h0
    have h00 := hc0 0 hC0
    have hsome : ∃ u, W.cell? a = some u := by
      refine ⟨cs0[0]'(by omega), ?_⟩
      have e : (a.add (0 * C)).add 0 = a := by simp [Addr.add]
      rw [e] at h00
      rw [h00]
      exact List.getElem?_eq_getElem (by omega)
    obtain ⟨u, hu⟩ := hsome
    have hsp := World.cell?_spot hu
    obtain ⟨b, off, spot⟩ := a
    obtain rfl : spot = none := hsp
    refine ⟨b, off, rfl, cell_lt hu, fun i hil => ?_⟩
    obtain ⟨cs, h1, h2⟩ := hi i (by omega)
    rw [hC] at h1
    obtain ⟨_, hl1, hc1⟩ := World.cells?_some h1
    refine ⟨cs, n, _, hl1, fun j hj => ?_, h2⟩
    have := hc1 j hj
    rwa [addr_add, addr_add] at this

theorem rk_cB : Try.prog.cellsOf 5 = 1 := by kernel_rfl
theorem rk_cI : Try.prog.cellsOf 3 = 1 := by kernel_rfl
theorem rk_cS : Try.prog.cellsOf 9 = 1 := by kernel_rfl
theorem rk_cBs : Try.prog.cellsOf 27 = 1 := by kernel_rfl
theorem rk_cF : Try.prog.cellsOf 29 = 3 := by kernel_rfl
theorem rk_cO : Try.prog.cellsOf 38 = 8 := by kernel_rfl

/-- Bytes that came in. -/
theorem bytes_trod {W : World} {fuel : Nat} {vcs : List Value} {y : DataW H × List MemPlace} (h : DataW.trod enc Try.prog W 0 (fun _ => true) true fuel 27 vcs = some y) :
    ∃ v bs, vcs = [v] ∧ BytesX W v bs := by
  obtain ⟨p, len, cap, rfl, hl, hm, hp0, hp⟩ := rows_trod Try.underlying27 rk_cB (by omega) h
  have hex : ∀ i, ∃ c : UInt8, i < len → ∀ x, p = some x → W.cell? (x.add i) = some (byteV c) := by
    intro i
    by_cases hil : i < len
    · obtain ⟨b, off, rfl, hb, hi⟩ := hp (by omega)
      obtain ⟨cs, n, x, hlen, hc, htr⟩ := hi i hil
      obtain ⟨z0, e0, _, r0⟩ := DataW.trod_int (k := .u8) Try.underlying5 htr
      obtain ⟨c, ec⟩ := u8_of r0
      refine ⟨c, fun _ x hx => ?_⟩
      cases hx
      have := hc 0 (by omega)
      rw [e0] at this
      rw [addr_add, ← ec]
      simpa using this
    · exact ⟨0, fun h => absurd h hil⟩
  obtain ⟨f, hf⟩ := Classical.axiomOfChoice hex
  have hlf : ((List.range len).map f).length = len := by simp
  refine ⟨_, (List.range len).map f, rfl, p, cap, by rw [hlf], fun e => by rw [hlf]; exact hp0 e, fun x hx j u hj => ?_⟩
  unfold bytesV at hj
  rw [List.getElem?_map, List.getElem?_map] at hj
  by_cases hjl : j < len
  · rw [List.getElem?_range hjl] at hj
    cases hj
    exact hf j hjl x hx
  · rw [List.getElem?_eq_none (by simp; omega)] at hj
    cases hj

def FateV (k d t : Int) : Value := .agg #[.int .i64 k, .int .i64 d, .int .i64 t]

noncomputable def fieldsOf (t : TypeId) : Array Field := match Try.prog.underlying t with | some (.struct fs) => fs | _ => #[]
theorem rk_fate : Try.prog.underlying 29 = some (.struct (fieldsOf 29)) := by kernel_rfl
theorem rk_fateF : ((fieldsOf 29).map fun f : Field => (f.type, f.offset)) = #[(3, 0), (3, 1), (3, 2)] := by kernel_rfl
theorem rk_op : Try.prog.underlying 38 = some (.struct (fieldsOf 38)) := by kernel_rfl
theorem rk_opF : ((fieldsOf 38).map fun f : Field => (f.type, f.offset)) = #[(3, 0), (9, 1), (9, 2), (27, 3), (3, 4), (29, 5)] := by kernel_rfl

/-- A struct's fields, each by its own type. -/
theorem fields_trod {t : TypeId} {W : World} {n C : Nat} {cs : List Value} {x : DataW H × List MemPlace} {F : Array (TypeId × Nat)} (hu : Try.prog.underlying t = some (.struct (fieldsOf t))) (hC : Try.prog.cellsOf t = C) (hF : ((fieldsOf t).map fun f : Field => (f.type, f.offset)) = F)
    (h : DataW.trod enc Try.prog W 0 (fun _ => true) true n t cs = some x) :
    cs.length = C ∧ ∃ m, ∀ (i : Nat) (p : TypeId × Nat), F[i]? = some p → ∃ y, DataW.trod enc Try.prog W 0 (fun _ => true) true m p.1 ((cs.drop p.2).take (Try.prog.cellsOf p.1)) = some y := by
  obtain ⟨xs, m, _, _, hlen, hxs, hf⟩ := DataW.trod_struct hu h
  rw [hC] at hlen
  generalize (fieldsOf t) = fs at *
  refine ⟨hlen, m, ?_⟩
  intro i p hp
  rw [← hF, Array.getElem?_map] at hp
  cases hfi : fs[i]? with
  | none => rw [hfi] at hp; cases hp
  | some f =>
    rw [hfi] at hp
    simp only [Option.map_some, Option.some.injEq] at hp
    subst hp
    have hi : i < fs.size := (Array.getElem?_eq_some_iff.1 hfi).1
    refine ⟨xs[i]'(by omega), ?_⟩
    rw [hf i f hfi]
    exact List.getElem?_eq_getElem (by omega)

def Rng (a : Int) : Prop := -9223372036854775808 ≤ a ∧ a < 9223372036854775808

set_option maxRecDepth 100000 in
theorem fate_cells {W : World} {n : Nat} {cs : List Value} {x : DataW H × List MemPlace} (h : DataW.trod enc Try.prog W 0 (fun _ => true) true n 29 cs = some x) :
    ∃ k d t, cs = [.int .i64 k, .int .i64 d, .int .i64 t] ∧ Rng k ∧ Rng d ∧ Rng t := by
  obtain ⟨hlen, m, at_⟩ := fields_trod rk_fate rk_cF rk_fateF h
  match cs, hlen with
  | [c0, c1, c2], _ =>
    obtain ⟨y0, h0⟩ := at_ 0 (3, 0) rfl
    obtain ⟨y1, h1⟩ := at_ 1 (3, 1) rfl
    obtain ⟨y2, h2⟩ := at_ 2 (3, 2) rfl
    simp only [rk_cI] at h0 h1 h2
    obtain ⟨z0, e0, _, r0⟩ := DataW.trod_int (k := .i64) Try.underlying3 h0
    obtain ⟨z1, e1, _, r1⟩ := DataW.trod_int (k := .i64) Try.underlying3 h1
    obtain ⟨z2, e2, _, r2⟩ := DataW.trod_int (k := .i64) Try.underlying3 h2
    simp at e0 e1 e2
    subst e0 e1 e2
    exact ⟨z0, z1, z2, rfl, i64_in r0, i64_in r1, i64_in r2⟩

/-- An operation's cells. -/
def OpCells (W : World) (b k : Nat) (q : DOp) : Prop :=
  W.cell? ⟨b, k, none⟩ = some (.int .i64 q.kind) ∧ W.cell? ⟨b, k + 1, none⟩ = some (.string q.s) ∧ W.cell? ⟨b, k + 2, none⟩ = some (.string q.t) ∧
  (∃ v, W.cell? ⟨b, k + 3, none⟩ = some v ∧ BytesX W v q.b) ∧ W.cell? ⟨b, k + 4, none⟩ = some (.int .i64 q.n) ∧
  W.cell? ⟨b, k + 5, none⟩ = some (.int .i64 q.keep) ∧ W.cell? ⟨b, k + 6, none⟩ = some (.int .i64 q.dirs) ∧ W.cell? ⟨b, k + 7, none⟩ = some (.int .i64 q.tear)

structure DOp.Fits (q : DOp) : Prop where
  kind : Rng q.kind
  s : q.s.size ≤ 9223372036854775807
  t : q.t.size ≤ 9223372036854775807
  n : Rng q.n
  keep : Rng q.keep
  dirs : Rng q.dirs
  tear : Rng q.tear

def DOp.nil : DOp := ⟨0, ⟨#[]⟩, ⟨#[]⟩, [], 0, 0, 0, 0⟩

set_option maxRecDepth 100000 in
theorem op_trod {W : World} {n : Nat} {cs : List Value} {x : DataW H × List MemPlace} (h : DataW.trod enc Try.prog W 0 (fun _ => true) true n 38 cs = some x) :
    ∃ (q : DOp) (v : Value), q.Fits ∧ BytesX W v q.b ∧ cs = [.int .i64 q.kind, .string q.s, .string q.t, v, .int .i64 q.n, .int .i64 q.keep, .int .i64 q.dirs, .int .i64 q.tear] := by
  obtain ⟨hlen, m, at_⟩ := fields_trod rk_op rk_cO rk_opF h
  match cs, hlen with
  | [c0, c1, c2, c3, c4, c5, c6, c7], _ =>
    obtain ⟨y0, h0⟩ := at_ 0 (3, 0) rfl
    obtain ⟨y1, h1⟩ := at_ 1 (9, 1) rfl
    obtain ⟨y2, h2⟩ := at_ 2 (9, 2) rfl
    obtain ⟨y3, h3⟩ := at_ 3 (27, 3) rfl
    obtain ⟨y4, h4⟩ := at_ 4 (3, 4) rfl
    obtain ⟨y5, h5⟩ := at_ 5 (29, 5) rfl
    simp only [rk_cI, rk_cS, rk_cBs, rk_cF] at h0 h1 h2 h3 h4 h5
    obtain ⟨z0, e0, _, r0⟩ := DataW.trod_int (k := .i64) Try.underlying3 h0
    obtain ⟨z1, e1, _, r1⟩ := DataW.trod_string Try.underlying9 h1
    obtain ⟨z2, e2, _, r2⟩ := DataW.trod_string Try.underlying9 h2
    obtain ⟨v3, b3, e3, r3⟩ := bytes_trod h3
    obtain ⟨z4, e4, _, r4⟩ := DataW.trod_int (k := .i64) Try.underlying3 h4
    obtain ⟨k, d, t, e5, r5, r6, r7⟩ := fate_cells h5
    simp at e0 e1 e2 e3 e4 e5
    obtain ⟨e5, e6, e7⟩ := e5
    subst e0 e1 e2 e3 e4 e5 e6 e7
    exact ⟨⟨z0, z1, z2, b3, z4, k, d, t⟩, c3, ⟨i64_in r0, r1, r2, i64_in r4, r5, r6, r7⟩, r3, rfl⟩

/-- A script that can be read. -/
def OpsIn (W : World) (v : Value) (n : Nat) (f : Nat → DOp) : Prop :=
  ∃ p c, v = .slice p n c ∧ n ≤ c ∧ c ≤ 9223372036854775807 ∧ (∀ i, i < n → (f i).Fits) ∧ (0 < n → ∃ b off, p = some ⟨b, off, none⟩ ∧ ∀ i, i < n → OpCells W b (off + i * 8) (f i))

set_option maxRecDepth 100000 in
theorem ops_in {t : TypeId} {W : World} {fuel : Nat} {vcs : List Value} {y : DataW H × List MemPlace} (ht : Try.prog.underlying t = some (.slice 38))
    (h : DataW.trod enc Try.prog W 0 (fun _ => true) true fuel t vcs = some y) : ∃ v n f, vcs = [v] ∧ OpsIn W v n f := by
  obtain ⟨p, len, cap, rfl, hl, hm, _, hp⟩ := rows_trod ht rk_cO (by omega) h
  by_cases hpos : 0 < len
  · obtain ⟨b, off, rfl, hb, hi⟩ := hp hpos
    have hex : ∀ i, ∃ q : DOp, i < len → q.Fits ∧ OpCells W b (off + i * 8) q := by
      intro i
      by_cases hil : i < len
      · obtain ⟨cs, n, x, hlen, hc, htr⟩ := hi i hil
        obtain ⟨q, v, hq, hv, rfl⟩ := op_trod htr
        exact ⟨q, fun _ => ⟨hq, hc 0 (by omega), hc 1 (by omega), hc 2 (by omega), ⟨v, hc 3 (by omega), hv⟩, hc 4 (by omega), hc 5 (by omega), hc 6 (by omega), hc 7 (by omega)⟩⟩
      · exact ⟨.nil, fun h => absurd h hil⟩
    obtain ⟨f, hf⟩ := Classical.axiomOfChoice hex
    exact ⟨_, len, f, rfl, _, _, rfl, hl, hm, fun i h => (hf i h).1, fun _ => ⟨b, off, rfl, fun i h => (hf i h).2⟩⟩
  · exact ⟨_, len, fun _ => .nil, rfl, _, _, rfl, hl, hm, fun i hi => by omega, fun h => absurd h hpos⟩

/-- Strings that can be read. -/
def StrsAt (W : World) (v : Value) (n : Nat) (f : Nat → ByteArray) : Prop :=
  ∃ p c, v = .slice p n c ∧ n ≤ c ∧ c ≤ 9223372036854775807 ∧ (∀ i, i < n → (f i).size ≤ 9223372036854775807) ∧ (0 < n → ∃ b off, p = some ⟨b, off, none⟩ ∧ ∀ i, i < n → W.cell? ⟨b, off + i, none⟩ = some (.string (f i)))

set_option maxRecDepth 100000 in
theorem strs_in {t : TypeId} {W : World} {fuel : Nat} {vcs : List Value} {y : DataW H × List MemPlace} (ht : Try.prog.underlying t = some (.slice 9))
    (h : DataW.trod enc Try.prog W 0 (fun _ => true) true fuel t vcs = some y) : ∃ v n f, vcs = [v] ∧ StrsAt W v n f := by
  obtain ⟨p, len, cap, rfl, hl, hm, _, hp⟩ := rows_trod ht rk_cS (by omega) h
  by_cases hpos : 0 < len
  · obtain ⟨b, off, rfl, hb, hi⟩ := hp hpos
    have hex : ∀ i, ∃ q : ByteArray, i < len → q.size ≤ 9223372036854775807 ∧ W.cell? ⟨b, off + i, none⟩ = some (.string q) := by
      intro i
      by_cases hil : i < len
      · obtain ⟨cs, n, x, hlen, hc, htr⟩ := hi i hil
        obtain ⟨z1, e1, _, r1⟩ := DataW.trod_string Try.underlying9 htr
        subst e1
        exact ⟨z1, fun _ => ⟨r1, by have := hc 0 (by omega); simpa using this⟩⟩
      · exact ⟨⟨#[]⟩, fun h => absurd h hil⟩
    obtain ⟨f, hf⟩ := Classical.axiomOfChoice hex
    exact ⟨_, len, f, rfl, _, _, rfl, hl, hm, fun i h => (hf i h).1, fun _ => ⟨b, off, rfl, fun i h => (hf i h).2⟩⟩
  · exact ⟨_, len, fun _ => ⟨#[]⟩, rfl, _, _, rfl, hl, hm, fun i hi => by omega, fun h => absurd h hpos⟩

theorem OpCells.kept {W W' : World} {b k : Nat} {q : DOp} (h : OpCells W b k q) (kp : Kept [] W W') : OpCells W' b k q := by
  obtain ⟨h0, h1, h2, ⟨v, h3, h3b⟩, h4, h5, h6, h7⟩ := h
  exact ⟨kp.cell h0 (by simp), kp.cell h1 (by simp), kp.cell h2 (by simp), ⟨v, kp.cell h3 (by simp), h3b.kept kp (by simp)⟩, kp.cell h4 (by simp), kp.cell h5 (by simp), kp.cell h6 (by simp), kp.cell h7 (by simp)⟩

theorem OpsIn.kept {W W' : World} {v : Value} {n : Nat} {f : Nat → DOp} (h : OpsIn W v n f) (kp : Kept [] W W') : OpsIn W' v n f := by
  obtain ⟨p, c, h1, h2, h3, h4, h5⟩ := h
  refine ⟨p, c, h1, h2, h3, h4, fun h0 => ?_⟩
  obtain ⟨b, off, e, h6⟩ := h5 h0
  exact ⟨b, off, e, fun i hi => (h6 i hi).kept kp⟩

end
end Go.Proofs.Ytbankfdgoolbdaa
