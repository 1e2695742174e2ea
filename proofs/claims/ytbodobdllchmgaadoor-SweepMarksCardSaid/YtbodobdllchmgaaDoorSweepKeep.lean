/- The walks of Keep, and of the document's. -/
import Derived.Test.YtbodobdllchmgaaDoorSweepMarks
import Derived.Test.YtbodobdllchmgaaDoorRefWord
namespace Go.Proofs.YtbodobdllchmgaaDoor
open Go Go.RowKit
set_option linter.unusedVariables false

/-- Is a word a timestamp that is not above a time? -/
def pastF (w mark : Int) : Bool := decide (w < 1099511627776) && decide (w ≤ mark)

set_option maxHeartbeats 1000000 in
set_option maxRecDepth 100000 in
theorem past_walk (W : World) (w mark : Int) (h0 : 0 ≤ w) (h1 : w < 18446744073709551616) :
    Calls Tryd.prog 34 #[.int .u64 w, .int .i64 mark] W fun e W' => e = .returned (.bool (pastF w mark)) ∧ W' = W := by
  have HP := Lib.hid (parts_walk W w h0 h1)
  unfold pastF
  by_cases c1 : w < 1099511627776
  · have e1 : wTime w = w := by unfold wTime; rw [if_pos (by omega)]
    have e2 : wOwner w = 0 := by unfold wOwner; rw [if_neg (by omega)]
    have e3 : wOk w = true := by unfold wOk; simp; omega
    rw [e1, e2, e3] at HP
    have d1 : decide (w < 1099511627776) = true := by simpa using c1
    have f1 : decide (w = 1099511627776) = false := by simp; omega
    have f2 : (w == 1099511627776) = false := by simp; omega
    have f3 : (w != 1099511627776) = true := by simp; omega
    rw [d1]
    go_enter Tryd.func34, Tryd.ntmps34
    go_wp2_with fail
    refine HP.out.mono ?_
    rintro e W' ⟨rfl, rfl⟩
    go_wp2_with fail
    go_ret
    exact ⟨rfl, rfl⟩
  · have d1 : decide (w < 1099511627776) = false := by simpa using c1
    rw [d1]
    by_cases c2 : w = 1099511627776
    · subst c2
      have e2 : wOwner 1099511627776 = 0 := by decide
      have e3 : wOk 1099511627776 = true := by decide
      rw [e2, e3] at HP
      go_enter Tryd.func34, Tryd.ntmps34
      go_wp2_with fail
      refine HP.out.mono ?_
      rintro e W' ⟨rfl, rfl⟩
      go_wp2_with fail
      go_ret
      exact ⟨rfl, rfl⟩
    · by_cases c3 : wOk w = true
      · have e2 : wOwner w ≠ 0 := by
          unfold wOk at c3; simp at c3
          unfold wOwner; rw [if_pos (by omega)]; omega
        rw [c3] at HP
        have f1 : decide (wOwner w = 0) = false := by simpa using e2
        have f2 : (wOwner w == 0) = false := by simpa using e2
        go_enter Tryd.func34, Tryd.ntmps34
        go_wp2_with fail
        refine HP.out.mono ?_
        rintro e W' ⟨rfl, rfl⟩
        go_wp2_with fail
        go_ret
        exact ⟨rfl, rfl⟩
      · have e3 : wOk w = false := by simpa using c3
        rw [e3] at HP
        go_enter Tryd.func34, Tryd.ntmps34
        go_wp2_with fail
        refine HP.out.mono ?_
        rintro e W' ⟨rfl, rfl⟩
        go_wp2_with fail
        go_ret
        exact ⟨rfl, rfl⟩

set_option maxHeartbeats 1000000 in
set_option maxRecDepth 100000 in
theorem rpast_walk (W : World) (w mark : Int) (h0 : 0 ≤ w) (h1 : w < 18446744073709551616) :
    Calls Tryd.prog 35 #[.int .u64 w, .int .i64 mark] W fun e W' => e = .returned (.bool (pastF w mark)) ∧ W' = W := by
  have HP := Lib.hid (rparts_walk W w h0 h1)
  unfold pastF
  by_cases c1 : w < 1099511627776
  · have e1 : wTime w = w := by unfold wTime; rw [if_pos (by omega)]
    have e2 : wOwner w = 0 := by unfold wOwner; rw [if_neg (by omega)]
    have e3 : wOk w = true := by unfold wOk; simp; omega
    rw [e1, e2, e3] at HP
    have d1 : decide (w < 1099511627776) = true := by simpa using c1
    have f1 : decide (w = 1099511627776) = false := by simp; omega
    have f2 : (w == 1099511627776) = false := by simp; omega
    have f3 : (w != 1099511627776) = true := by simp; omega
    rw [d1]
    go_enter Tryd.func35, Tryd.ntmps35
    go_wp2_with fail
    refine HP.out.mono ?_
    rintro e W' ⟨rfl, rfl⟩
    go_wp2_with fail
    go_ret
    exact ⟨rfl, rfl⟩
  · have d1 : decide (w < 1099511627776) = false := by simpa using c1
    rw [d1]
    by_cases c2 : w = 1099511627776
    · subst c2
      have e2 : wOwner 1099511627776 = 0 := by decide
      have e3 : wOk 1099511627776 = true := by decide
      rw [e2, e3] at HP
      go_enter Tryd.func35, Tryd.ntmps35
      go_wp2_with fail
      refine HP.out.mono ?_
      rintro e W' ⟨rfl, rfl⟩
      go_wp2_with fail
      go_ret
      exact ⟨rfl, rfl⟩
    · by_cases c3 : wOk w = true
      · have e2 : wOwner w ≠ 0 := by
          unfold wOk at c3; simp at c3
          unfold wOwner; rw [if_pos (by omega)]; omega
        rw [c3] at HP
        have f1 : decide (wOwner w = 0) = false := by simpa using e2
        have f2 : (wOwner w == 0) = false := by simpa using e2
        go_enter Tryd.func35, Tryd.ntmps35
        go_wp2_with fail
        refine HP.out.mono ?_
        rintro e W' ⟨rfl, rfl⟩
        go_wp2_with fail
        go_ret
        exact ⟨rfl, rfl⟩
      · have e3 : wOk w = false := by simpa using c3
        rw [e3] at HP
        go_enter Tryd.func35, Tryd.ntmps35
        go_wp2_with fail
        refine HP.out.mono ?_
        rintro e W' ⟨rfl, rfl⟩
        go_wp2_with fail
        go_ret
        exact ⟨rfl, rfl⟩

/-- How many stay, from the i-th on, of so many more. -/
def keepF (b e : Nat → Int) (mark : Int) (i : Nat) : Nat → Nat
  | 0 => i
  | k + 1 => if pastF (b i) mark = true then (if pastF (e i) mark = true then i else i + 1) else keepF b e mark (i + 1) k

/-- A slice of words that came in. -/
structure WRow (w : World) (p : Option Addr) (n cap : Nat) (z : Nat → Int) : Prop where
  nil : p = none → n = 0 ∧ cap = 0
  le : n ≤ cap
  max : cap ≤ maxLen
  rng : ∀ i, i < n → 0 ≤ z i ∧ z i < 18446744073709551616
  cell : 0 < n → ∃ b off, p = some ⟨b, off, none⟩ ∧ b < w.heap.size ∧ ∀ i, i < n → w.cell? ⟨b, off + i, none⟩ = some (.int .u64 (z i))
theorem WRow.kept {w w' : World} {p : Option Addr} {n cap : Nat} {z : Nat → Int} (h : WRow w p n cap z) (k : Kept [] w w') : WRow w' p n cap z := by
  refine ⟨h.nil, h.le, h.max, h.rng, fun h0 => ?_⟩
  obtain ⟨b, off, e, hb, hc⟩ := h.cell h0
  exact ⟨b, off, e, Nat.lt_of_lt_of_le hb k.size, fun i hi => k.cell (hc i hi) (by simp)⟩

set_option maxHeartbeats 4000000 in
set_option maxRecDepth 100000 in
theorem keep_walk (w : World) (pb pe : Option Addr) (nb ne cb ce : Nat) (zb ze : Nat → Int) (mark : Int) (hb : WRow w pb nb cb zb) (he : WRow w pe ne ce ze) (N : Nat) (hN : N = if ne < nb then ne else nb) :
    Calls Tryd.prog 14 #[.slice pb nb cb, .slice pe ne ce, .int .i64 mark] w fun e w' => e = .returned (.int .i64 (keepF zb ze mark 0 N : Nat)) ∧ w' = w := by
  have HB := Lib.hid hb
  have HE := Lib.hid he
  have h9 : maxLen ≤ 9223372036854775807 := by decide
  have m1 : nb ≤ cb := hb.le
  have m2 : cb ≤ 9223372036854775807 := Nat.le_trans hb.max h9
  have m3 : ne ≤ ce := he.le
  have m4 : ce ≤ 9223372036854775807 := Nat.le_trans he.max h9
  have hle : N ≤ nb ∧ N ≤ ne := by rw [hN]; split <;> omega
  have hsp : (decide ((ne : Int) < (nb : Int)) = true ∧ ne < nb ∧ N = ne) ∨ (decide ((ne : Int) < (nb : Int)) = false ∧ ¬ ne < nb ∧ N = nb) := by
    by_cases h1 : ne < nb
    · left; rw [if_pos h1] at hN; simp; exact ⟨h1, hN⟩
    · right; rw [if_neg h1] at hN; simp; exact ⟨by omega, hN⟩
  obtain ⟨K, hK⟩ : ∃ K, K = keepF zb ze mark 0 N := ⟨_, rfl⟩
  rw [← hK]
  have HK := Lib.hid hK
  clear hb he hN hK h9
  rcases hsp with ⟨x1, x2, x3⟩ | ⟨x1, x2, x3⟩
  all_goals (
    subst x3
    go_enter Tryd.func14, Tryd.ntmps14
    go_wp2_with fail
    go_loopg [19] N (fun k iv wr => ∃ i : Nat, i ≤ N ∧ k = N - i ∧ iv = .int .i64 i ∧ K = keepF zb ze mark i (N - i) ∧ wr = w)
    case atStart => exact ⟨0, Nat.zero_le _, rfl, rfl, HK.out, rfl⟩
    case round =>
      obtain ⟨i, hi, hk, rfl, hk0, rfl⟩ := hrel
      have HKK := Lib.hid hk
      have HK0 := Lib.hid hk0
      clear hk hk0
      by_cases hlt : i < N
      · have d1 : decide ((i : Int) < (N : Int)) = true := by simp; omega
        have d1' : decide (i < N) = true := by simp; omega
        obtain ⟨b1, o1, rfl, _, hc1⟩ := HB.out.cell (by omega)
        obtain ⟨b2, o2, rfl, _, hc2⟩ := HE.out.cell (by omega)
        have c1 := hc1 i (by omega)
        have c2 := hc2 i (by omega)
        have q1 : 0 ≤ (i : Int) ∧ (i : Int) < (N : Int) := by omega
        have HA := Lib.hid (past_walk wr (zb i) mark (HB.out.rng i (by omega)).1 (HB.out.rng i (by omega)).2)
        have HE2 := Lib.hid (past_walk wr (ze i) mark (HE.out.rng i (by omega)).1 (HE.out.rng i (by omega)).2)
        have HS := Lib.hid (show keepF zb ze mark i (N - i) = if pastF (zb i) mark = true then (if pastF (ze i) mark = true then i else i + 1) else keepF zb ze mark (i + 1) (N - (i + 1)) by
          rw [show N - i = N - (i + 1) + 1 by omega]; rfl)
        clear hc1 hc2
        cases hpa : pastF (zb i) mark
        · rw [hpa] at HA HS
          cases hpe : pastF (ze i) mark
          all_goals (
            rw [hpe] at HE2 HS
            go_wp2_with fail
            refine HA.out.mono ?_
            rintro e W' ⟨rfl, rfl⟩
            go_wp2_with fail
            go_roundg (N - (i + 1))
            case measure => rw [HKK.out]; omega
            case rel => exact ⟨i + 1, by omega, rfl, by go_num, by rw [HK0.out, HS.out]; simp, rfl⟩)
        · rw [hpa] at HA HS
          cases hpe : pastF (ze i) mark
          · rw [hpe] at HE2 HS
            have HK1 := Lib.hid (show K = i + 1 by rw [HK0.out, HS.out]; simp)
            go_wp2_with fail
            refine HA.out.mono ?_
            rintro e W' ⟨rfl, rfl⟩
            go_wp2_with fail
            refine HE2.out.mono ?_
            rintro e W' ⟨rfl, rfl⟩
            go_wp2_with fail
            go_ret
            exact ⟨by rw [HK1.out]; simp, rfl⟩
          · rw [hpe] at HE2 HS
            have HK1 := Lib.hid (show K = i by rw [HK0.out, HS.out]; simp)
            go_wp2_with fail
            refine HA.out.mono ?_
            rintro e W' ⟨rfl, rfl⟩
            go_wp2_with fail
            refine HE2.out.mono ?_
            rintro e W' ⟨rfl, rfl⟩
            go_wp2_with fail
            go_ret
            exact ⟨by rw [HK1.out]; rfl, rfl⟩
      · have d1 : decide ((i : Int) < (N : Int)) = false := by simp; omega
        have d1' : decide (i < N) = false := by simp; omega
        obtain rfl : i = N := by omega
        have HK1 := Lib.hid (show K = i by rw [HK0.out, Nat.sub_self]; rfl)
        go_wp2_with fail
        go_ret
        exact ⟨by rw [HK1.out]; rfl, rfl⟩)

set_option maxHeartbeats 4000000 in
set_option maxRecDepth 100000 in
theorem rkeep_walk (w : World) (pb pe : Option Addr) (nb ne cb ce : Nat) (zb ze : Nat → Int) (mark : Int) (hb : WRow w pb nb cb zb) (he : WRow w pe ne ce ze) (N : Nat) (hN : N = if ne < nb then ne else nb) :
    Calls Tryd.prog 16 #[.slice pb nb cb, .slice pe ne ce, .int .i64 mark] w fun e w' => e = .returned (.int .i64 (keepF zb ze mark 0 N : Nat)) ∧ w' = w := by
  have HB := Lib.hid hb
  have HE := Lib.hid he
  have h9 : maxLen ≤ 9223372036854775807 := by decide
  have m1 : nb ≤ cb := hb.le
  have m2 : cb ≤ 9223372036854775807 := Nat.le_trans hb.max h9
  have m3 : ne ≤ ce := he.le
  have m4 : ce ≤ 9223372036854775807 := Nat.le_trans he.max h9
  have hle : N ≤ nb ∧ N ≤ ne := by rw [hN]; split <;> omega
  have hsp : (decide ((ne : Int) < (nb : Int)) = true ∧ ne < nb ∧ N = ne) ∨ (decide ((ne : Int) < (nb : Int)) = false ∧ ¬ ne < nb ∧ N = nb) := by
    by_cases h1 : ne < nb
    · left; rw [if_pos h1] at hN; simp; exact ⟨h1, hN⟩
    · right; rw [if_neg h1] at hN; simp; exact ⟨by omega, hN⟩
  obtain ⟨K, hK⟩ : ∃ K, K = keepF zb ze mark 0 N := ⟨_, rfl⟩
  rw [← hK]
  have HK := Lib.hid hK
  clear hb he hN hK h9
  rcases hsp with ⟨x1, x2, x3⟩ | ⟨x1, x2, x3⟩
  all_goals (
    subst x3
    go_enter Tryd.func16, Tryd.ntmps16
    go_wp2_with fail
    go_loopg [8] N (fun k iv wr => ∃ i : Nat, i ≤ N ∧ k = N - i ∧ iv = .int .i64 i ∧ K = keepF zb ze mark i (N - i) ∧ wr = w)
    case atStart => exact ⟨0, Nat.zero_le _, rfl, rfl, HK.out, rfl⟩
    case round =>
      obtain ⟨i, hi, hk, rfl, hk0, rfl⟩ := hrel
      have HKK := Lib.hid hk
      have HK0 := Lib.hid hk0
      clear hk hk0
      by_cases hlt : i < N
      · have d1 : decide ((i : Int) < (N : Int)) = true := by simp; omega
        have d1' : decide (i < N) = true := by simp; omega
        obtain ⟨b1, o1, rfl, _, hc1⟩ := HB.out.cell (by omega)
        obtain ⟨b2, o2, rfl, _, hc2⟩ := HE.out.cell (by omega)
        have c1 := hc1 i (by omega)
        have c2 := hc2 i (by omega)
        have q1 : 0 ≤ (i : Int) ∧ (i : Int) < (N : Int) := by omega
        have HA := Lib.hid (rpast_walk wr (zb i) mark (HB.out.rng i (by omega)).1 (HB.out.rng i (by omega)).2)
        have HE2 := Lib.hid (rpast_walk wr (ze i) mark (HE.out.rng i (by omega)).1 (HE.out.rng i (by omega)).2)
        have HS := Lib.hid (show keepF zb ze mark i (N - i) = if pastF (zb i) mark = true then (if pastF (ze i) mark = true then i else i + 1) else keepF zb ze mark (i + 1) (N - (i + 1)) by
          rw [show N - i = N - (i + 1) + 1 by omega]; rfl)
        clear hc1 hc2
        cases hpa : pastF (zb i) mark
        · rw [hpa] at HA HS
          cases hpe : pastF (ze i) mark
          all_goals (
            rw [hpe] at HE2 HS
            go_wp2_with fail
            refine HA.out.mono ?_
            rintro e W' ⟨rfl, rfl⟩
            go_wp2_with fail
            refine HE2.out.mono ?_
            rintro e W' ⟨rfl, rfl⟩
            go_wp2_with fail
            go_roundg (N - (i + 1))
            case measure => rw [HKK.out]; omega
            case rel => exact ⟨i + 1, by omega, rfl, by go_num, by rw [HK0.out, HS.out]; simp, rfl⟩)
        · rw [hpa] at HA HS
          cases hpe : pastF (ze i) mark
          · rw [hpe] at HE2 HS
            have HK1 := Lib.hid (show K = i + 1 by rw [HK0.out, HS.out]; simp)
            go_wp2_with fail
            refine HA.out.mono ?_
            rintro e W' ⟨rfl, rfl⟩
            go_wp2_with fail
            refine HE2.out.mono ?_
            rintro e W' ⟨rfl, rfl⟩
            go_wp2_with fail
            go_ret
            exact ⟨by rw [HK1.out]; simp, rfl⟩
          · rw [hpe] at HE2 HS
            have HK1 := Lib.hid (show K = i by rw [HK0.out, HS.out]; simp)
            go_wp2_with fail
            refine HA.out.mono ?_
            rintro e W' ⟨rfl, rfl⟩
            go_wp2_with fail
            refine HE2.out.mono ?_
            rintro e W' ⟨rfl, rfl⟩
            go_wp2_with fail
            go_ret
            exact ⟨by rw [HK1.out]; rfl, rfl⟩
      · have d1 : decide ((i : Int) < (N : Int)) = false := by simp; omega
        have d1' : decide (i < N) = false := by simp; omega
        obtain rfl : i = N := by omega
        have HK1 := Lib.hid (show K = i by rw [HK0.out, Nat.sub_self]; rfl)
        go_wp2_with fail
        go_ret
        exact ⟨by rw [HK1.out]; rfl, rfl⟩)

end Go.Proofs.YtbodobdllchmgaaDoor
