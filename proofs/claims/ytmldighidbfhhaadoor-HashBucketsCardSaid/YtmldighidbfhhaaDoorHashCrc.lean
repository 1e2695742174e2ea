/- The walks of the sum over bytes, and of the document's. -/
import Derived.Test.YtmldighidbfhhaaDoorCrcPlain
import Derived.Test.YtmldighidbfhhaaDoorCellRep
namespace Go.Proofs.YtmldighidbfhhaaDoor
open Go Go.RowKit
set_option linter.unusedVariables false

/-- Bytes that a slice has. -/
def BytesAt (w : World) (q : Option Addr) (n : Nat) (z : Nat → Int) : Prop :=
  0 < n → ∃ b off, q = some ⟨b, off, none⟩ ∧ ∀ i, i < n → w.cell? ⟨b, off + i, none⟩ = some (.int .u8 (z i)) ∧ 0 ≤ z i ∧ z i < 256

set_option maxHeartbeats 4000000 in
set_option maxRecDepth 100000 in
theorem crc_walk (w : World) (ab aoff cap n c : Nat) (q : Option Addr) (z : Nat → Int) (hn : n ≤ 1000000) (hcell : w.cell? ⟨ab, aoff, none⟩ = some (.slice q n c)) (hz : BytesAt w q n z) :
    Calls Tryd.prog 26 #[.slice (some ⟨ab, aoff, none⟩) 1 cap] w fun e w' => e = .returned (.int .u32 (crcF ((List.range n).map z))) ∧ w' = w := by
  have HZ := Lib.hid hz
  have HF := Lib.hid (show crcF ((List.range n).map z) = Go.bits .xor .u32 4294967295 (crcL 4294967295 ((List.range n).map z)) from rfl)
  have HN0 := Lib.hid (show crcL 4294967295 ((List.range 0).map z) = 4294967295 from rfl)
  have HS := Lib.hid (fun i : Nat => show crcL 4294967295 ((List.range (i + 1)).map z) = crcN 8 (Go.bits .xor .u32 (crcL 4294967295 ((List.range i).map z)) (z i)) by
    rw [List.range_succ, List.map_append, List.map_singleton, crcL_snoc]; rfl)
  have HR := Lib.hid (fun i : Nat => crcL_range ((List.range i).map z) (c := 4294967295) ⟨by omega, by omega⟩)
  generalize hL : (fun i : Nat => crcL 4294967295 ((List.range i).map z)) = L at *
  have e0 : ∀ i, crcL 4294967295 ((List.range i).map z) = L i := fun i => by rw [← hL]
  rw [HF.out]
  simp only [e0] at *
  clear HF hL e0 hz
  go_enter Tryd.func26, Tryd.ntmps26
  go_wp2_with fail
  go_loopg [3, 10] 1 (fun k cv iv wr => (k = 1 ∧ iv = .int .i64 0 ∧ cv = .int .u32 4294967295 ∨ k = 0 ∧ iv = .int .i64 1 ∧ cv = .int .u32 (L n)) ∧ wr = w)
  case atStart => exact ⟨.inl ⟨rfl, rfl, rfl⟩, rfl⟩
  case round =>
    obtain ⟨⟨hk, rfl, rfl⟩ | ⟨hk, rfl, rfl⟩, rfl⟩ := hrel
    · have HK := Lib.hid hk
      clear hk
      go_wp2_with fail
      go_loopg [3, 16] n (fun k2 cv iv wr2 => ∃ i : Nat, i ≤ n ∧ k2 = n - i ∧ iv = .int .i64 i ∧ cv = .int .u32 (L i) ∧ wr2 = wr)
      case atStart => exact ⟨0, Nat.zero_le _, rfl, rfl, by rw [HN0.out], rfl⟩
      case round =>
        obtain ⟨i, hi, hk, rfl, rfl, rfl⟩ := hrel
        have HKK := Lib.hid hk
        clear hk
        by_cases hlt : i < n
        · have d1 : decide ((i : Int) < (n : Int)) = true := by simp; omega
          have d1' : decide (i < n) = true := by simp; omega
          obtain ⟨b, off, rfl, hc⟩ := HZ.out (by omega)
          obtain ⟨c0, hz0, hz1⟩ := hc i hlt
          clear hc
          have hw8 : IntKind.u32.wrap (z i) = z i := wrap32 hz0 (by omega)
          go_wp2_with fail
          go_loopg [3, 24] 8 (fun k3 cv iv wr3 => ∃ j : Nat, j ≤ 8 ∧ k3 = 8 - j ∧ iv = .int .i64 j ∧ cv = .int .u32 (crcN j (Go.bits .xor .u32 (L i) (z i))) ∧ wr3 = wr)
          case atStart => exact ⟨0, by omega, rfl, rfl, rfl, rfl⟩
          case round =>
            obtain ⟨j, hj, hk, rfl, rfl, rfl⟩ := hrel
            have HKJ := Lib.hid hk
            clear hk
            have HNS := Lib.hid (crcN_succ j (Go.bits .xor .u32 (L i) (z i)))
            have HRJ := Lib.hid (crcN_range j (bits32 .xor (L i) (z i)))
            by_cases hlt8 : j < 8
            · have d2 : decide ((j : Int) < 8) = true := by simp; omega
              have d2' : decide (j < 8) = true := by simp; omega
              obtain ⟨hc0, hc1⟩ := HRJ.out
              generalize crcN j (Go.bits .xor .u32 (L i) (z i)) = cj at *
              go_wp2_with fail
              go_roundg (8 - (j + 1))
              case measure => rw [HKJ.out]; omega
              case rel => exact ⟨j + 1, by omega, rfl, by go_num, by rw [HNS.out, crcB_form], rfl⟩
            · have d2 : decide ((j : Int) < 8) = false := by simp; omega
              have d2' : decide (j < 8) = false := by simp; omega
              obtain rfl : j = 8 := by omega
              have HSI := Lib.hid (HS.out i)
              go_wp2_with fail
              go_roundg (n - (i + 1))
              case measure => rw [HKK.out]; omega
              case rel => exact ⟨i + 1, by omega, rfl, by go_num, by rw [HSI.out], rfl⟩
        · have d1 : decide ((i : Int) < (n : Int)) = false := by simp; omega
          have d1' : decide (i < n) = false := by simp; omega
          obtain rfl : i = n := by omega
          go_wp2_with fail
          go_roundg 0
          case measure => rw [HK.out]; omega
          case rel => exact ⟨.inr ⟨rfl, rfl, rfl⟩, rfl⟩
    · go_wp2_with fail
      go_ret
      exact ⟨rfl, rfl⟩

set_option maxHeartbeats 4000000 in
set_option maxRecDepth 100000 in
theorem rcrc_walk (w : World) (n c : Nat) (q : Option Addr) (z : Nat → Int) (hn : n ≤ 1000000) (hz : BytesAt w q n z) :
    Calls Tryd.prog 11 #[.slice q n c] w fun e w' => e = .returned (.int .u32 (crcF ((List.range n).map z))) ∧ w' = w := by
  have HZ := Lib.hid hz
  have HF := Lib.hid (show crcF ((List.range n).map z) = Go.bits .xor .u32 (crcL 4294967295 ((List.range n).map z)) 4294967295 from xorC _ _)
  have HN0 := Lib.hid (show crcL 4294967295 ((List.range 0).map z) = 4294967295 from rfl)
  have HS := Lib.hid (fun i : Nat => show crcL 4294967295 ((List.range (i + 1)).map z) = crcN 8 (Go.bits .xor .u32 (crcL 4294967295 ((List.range i).map z)) (z i)) by
    rw [List.range_succ, List.map_append, List.map_singleton, crcL_snoc]; rfl)
  generalize hL : (fun i : Nat => crcL 4294967295 ((List.range i).map z)) = L at *
  have e0 : ∀ i, crcL 4294967295 ((List.range i).map z) = L i := fun i => by rw [← hL]
  rw [HF.out]
  simp only [e0] at *
  clear HF hL e0 hz
  go_enter Tryd.func11, Tryd.ntmps11
  go_wp2_with fail
  go_loopg [3, 4] n (fun k2 cv iv wr2 => ∃ i : Nat, i ≤ n ∧ k2 = n - i ∧ iv = .int .i64 i ∧ cv = .int .u32 (L i) ∧ wr2 = w)
  case atStart => exact ⟨0, Nat.zero_le _, rfl, rfl, by rw [HN0.out], rfl⟩
  case round =>
    obtain ⟨i, hi, hk, rfl, rfl, rfl⟩ := hrel
    have HKK := Lib.hid hk
    clear hk
    by_cases hlt : i < n
    · have d1 : decide ((i : Int) < (n : Int)) = true := by simp; omega
      have d1' : decide (i < n) = true := by simp; omega
      obtain ⟨b, off, rfl, hc⟩ := HZ.out (by omega)
      obtain ⟨c0, hz0, hz1⟩ := hc i hlt
      clear hc
      have hw8 : IntKind.u32.wrap (z i) = z i := wrap32 hz0 (by omega)
      go_wp2_with fail
      go_loopg [3, 5] 8 (fun k3 cv iv wr3 => ∃ j : Nat, j ≤ 8 ∧ k3 = 8 - j ∧ iv = .int .i64 j ∧ cv = .int .u32 (crcN j (Go.bits .xor .u32 (L i) (z i))) ∧ wr3 = wr)
      case atStart => exact ⟨0, by omega, rfl, rfl, rfl, rfl⟩
      case round =>
        obtain ⟨j, hj, hk, rfl, rfl, rfl⟩ := hrel
        have HKJ := Lib.hid hk
        clear hk
        have HNS := Lib.hid (crcN_succ j (Go.bits .xor .u32 (L i) (z i)))
        have HRJ := Lib.hid (crcN_range j (bits32 .xor (L i) (z i)))
        by_cases hlt8 : j < 8
        · have d2 : decide ((j : Int) < 8) = true := by simp; omega
          have d2' : decide (j < 8) = true := by simp; omega
          obtain ⟨hc0, hc1⟩ := HRJ.out
          generalize crcN j (Go.bits .xor .u32 (L i) (z i)) = cj at *
          have HB := Lib.hid (crcB_eq hc0 hc1)
          by_cases hodd : cj % 2 = 1
          · have d3 : decide (cj % 2 = 1) = true := by simpa using hodd
            have d3' : (cj % 2 == 1) = true := by simpa using hodd
            go_wp2_with fail
            go_roundg (8 - (j + 1))
            case measure => rw [HKJ.out]; omega
            case rel => exact ⟨j + 1, by omega, rfl, by go_num, by rw [HNS.out, HB.out, if_pos hodd], rfl⟩
          · have d3 : decide (cj % 2 = 1) = false := by simpa using hodd
            have d3' : (cj % 2 == 1) = false := by simpa using hodd
            go_wp2_with fail
            go_roundg (8 - (j + 1))
            case measure => rw [HKJ.out]; omega
            case rel => exact ⟨j + 1, by omega, rfl, by go_num, by rw [HNS.out, HB.out, if_neg hodd], rfl⟩
        · have d2 : decide ((j : Int) < 8) = false := by simp; omega
          have d2' : decide (j < 8) = false := by simp; omega
          obtain rfl : j = 8 := by omega
          have HSI := Lib.hid (HS.out i)
          go_wp2_with fail
          go_roundg (n - (i + 1))
          case measure => rw [HKK.out]; omega
          case rel => exact ⟨i + 1, by omega, rfl, by go_num, by rw [HSI.out], rfl⟩
    · have d1 : decide ((i : Int) < (n : Int)) = false := by simp; omega
      have d1' : decide (i < n) = false := by simp; omega
      obtain rfl : i = n := by omega
      go_wp2_with fail
      go_ret
      exact ⟨rfl, rfl⟩
end Go.Proofs.YtmldighidbfhhaaDoor
