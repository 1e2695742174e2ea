/- DiskNames walked: each name is judged alike. -/
import Derived.Test.YtbankfdgoolbdaaDkWalks
import Derived.Deep.RegionHeld3
namespace Go.Proofs.Ytbankfdgoolbdaa
open Go Go.RowKit Go.Lib
set_option linter.unusedVariables false
variable {w : World}

set_option maxHeartbeats 4000000 in
set_option maxRecDepth 100000 in
theorem names_law {v : Value} {n : Nat} {f : Nat → ByteArray} (h : StrsAt w v n f) :
    Calls Try.prog 3 #[v] w fun e w' => e = .returned (.bool true) ∧ Kept [] w w' := by
  obtain ⟨p, c, rfl, hnc, hcm, hsz, hcells⟩ := h
  have HS := Lib.hid hsz
  have HC := Lib.hid hcells
  clear hsz hcells
  go_enter Try.func3, Try.ntmps3
  go_wp2_with fail
  refine (shown_walk _).mono ?_
  rintro e w1 ⟨rfl, hk1⟩
  have HK1 := Lib.hid hk1
  clear hk1
  go_wp2_with fail
  go_loopg [4] n (fun kk iv wr => ∃ i : Nat, i ≤ n ∧ kk = n - i ∧ iv = .int .i64 i ∧ Kept [] w wr)
  case atStart => exact ⟨0, Nat.zero_le _, rfl, rfl, HK1.out⟩
  case round =>
    obtain ⟨i, hi, hkk, rfl, hK⟩ := hrel
    have HKK := Lib.hid hkk
    clear hkk
    by_cases hlt : i < n
    · have d1 : ((i : Int) < (n : Int)) ↔ True := by simp; omega
      obtain ⟨b, off, rfl, hcs⟩ := HC.out (by omega)
      have c1 : wr.drew.cell? _ = _ := hK.drew.cell (hcs i hlt) (by simp)
      have hx := HS.out i hlt
      generalize f i = x at *
      have hd : decide (i < n) = true := decide_eq_true hlt
      have hda : i < c := by omega
      have hKE := hK.drew
      have HX := Lib.hid hx
      have HR := Lib.hid (fun W => refName_walk x W hx)
      clear hK hcs hx
      go_wp2_with fail
      go_region_held3 (fun w' => w'.cell? ⟨b, off + i, none⟩ = some (.string x) ∧ Kept [] w w')
        (first | exact ⟨c1, hKE⟩ | exact ⟨k1, h8⟩ | exact ⟨k2, h9⟩ | go_keep)
        (first | (go_at_call 9
                  refine (isName_walk x _).mono ?_
                  rintro e w8 ⟨rfl, h8⟩
                  have k1 := h8.cell c1 (by simp)
                  have h8 := hKE.tr h8)
               | (go_at_call 10
                  refine (HR.out _).mono ?_
                  rintro e w9 ⟨rfl, h9⟩
                  have k2 := h9.cell k1 (by simp)
                  have h9 := h8.tr h9))
      go_wp2_with fail
      go_roundg (n - (i + 1))
      case measure => rw [HKK.out]; omega
      case rel => exact ⟨i + 1, by omega, rfl, by go_num, h9⟩
    · have d1 : ((i : Int) < (n : Int)) ↔ False := by simp; omega
      obtain rfl : i = n := by omega
      have HKE := Lib.hid hK
      clear hK
      go_wp2_with fail
      go_ret
      exact ⟨rfl, HKE.out⟩
end Go.Proofs.Ytbankfdgoolbdaa
