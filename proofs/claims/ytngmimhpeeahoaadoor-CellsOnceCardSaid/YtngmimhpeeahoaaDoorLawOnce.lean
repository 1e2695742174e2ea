/- The walk of CellsOnce. -/
import Derived.Test.YtngmimhpeeahoaaDoorLawShown
namespace Go.Proofs.YtngmimhpeeahoaaDoor
open Go Go.RowKit
set_option linter.unusedVariables false

/-- Where the first of several that swap stands: -1 as long as each lays what was there. -/
def wonAt (had : Int) (l : List Int) : Nat → Int
  | 0 => -1
  | i + 1 => if wonAt had l i < 0 then (if l.getD i 0 = had then -1 else (i : Int)) else wonAt had l i
def hasAt (had : Int) (l : List Int) (i : Nat) : Int := if wonAt had l i < 0 then had else l.getD (wonAt had l i).toNat 0

theorem wonAt_range (had : Int) (l : List Int) (i : Nat) : -1 ≤ wonAt had l i ∧ wonAt had l i < i ∨ wonAt had l i = -1 := by
  induction i with
  | zero => right; rfl
  | succ i ih =>
    unfold wonAt
    split
    · split
      · right; rfl
      · left; omega
    · rcases ih with ih | ih <;> omega

theorem wonAt_ne (had : Int) (l : List Int) (i : Nat) : wonAt had l i < 0 ∨ l.getD (wonAt had l i).toNat 0 ≠ had := by
  induction i with
  | zero => left; show (-1 : Int) < 0; omega
  | succ i ih =>
    unfold wonAt
    split
    · split
      · left; omega
      · right; simpa using by assumption
    · rcases ih with ih | ih
      · contradiction
      · right; exact ih

theorem hasAt_won (had : Int) (l : List Int) (i : Nat) : (hasAt had l i = had) ↔ wonAt had l i < 0 := by
  unfold hasAt
  have := wonAt_ne had l i
  constructor
  · intro h
    split at h
    · assumption
    · rcases this with h2 | h2
      · exact h2
      · exact absurd h h2
  · intro h; rw [if_pos h]

theorem hasAt_step (had : Int) (l : List Int) (i : Nat) (h : wonAt had l i < 0) : hasAt had l (i + 1) = l.getD i 0 := by
  unfold hasAt
  have e : wonAt had l (i + 1) = if l.getD i 0 = had then -1 else (i : Int) := by
    show (if wonAt had l i < 0 then _ else _) = _
    rw [if_pos h]
  rw [e]
  by_cases hh : l.getD i 0 = had
  · rw [if_pos hh, if_pos (by decide), hh]
  · rw [if_neg hh, if_neg (by omega)]; simp

theorem stay_step (had : Int) (l : List Int) (i : Nat) (h : ¬ wonAt had l i < 0) : wonAt had l (i + 1) = wonAt had l i ∧ hasAt had l (i + 1) = hasAt had l i := by
  have e : wonAt had l (i + 1) = wonAt had l i := by
    show (if wonAt had l i < 0 then _ else _) = _
    rw [if_neg h]
  exact ⟨e, by unfold hasAt; rw [e]⟩

set_option maxHeartbeats 4000000 in
set_option maxRecDepth 100000 in
theorem once_walk_some (w : World) (hT : TabAt w) (had : Int) (ab off cap : Nat) (zs : List Int) (hz : zs.length ≤ 140737488351232) (hcells : ∀ i, i < zs.length → w.cell? ⟨ab, off + i, none⟩ = some (.int .u64 (zs.getD i 0))) (n : Nat) (hn : n = zs.length) :
    Calls Tryd.prog 4 #[.int .u64 had, .slice (some ⟨ab, off, none⟩) n cap] w fun e w' => e = .returned (.bool true) ∧ Kept [] w w' := by
  have HC := Lib.hid hcells
  have HN := Lib.hid hn
  have hnz : n ≤ 140737488351232 := by omega
  clear hcells hn
  have HT := Lib.hid hT
  clear hT
  go_enter Tryd.func4, Tryd.ntmps4
  go_wp2_with fail
  refine (shown_calls w HT.out).mono ?_
  rintro e w0 ⟨rfl, hk0⟩
  have HK0 := Lib.hid hk0
  clear hk0
  go_wp2_with fail
  refine (own_new HK0.out 1 (by omega) (by omega)).mono ?_
  rintro e w1 ⟨b, rfl, hO⟩
  have HO := Lib.hid hO
  clear hO
  go_wp2_with fail
  refine (own_alloc HO.out HT.out 0 (by decide) rfl (by omega)).mono ?_
  rintro e w2 ⟨rfl, hO⟩
  clear HO
  have HO := Lib.hid hO
  clear hO
  go_wp2_with fail
  refine (own_store HO.out 0 0 had rfl).mono ?_
  rintro e w3 ⟨rfl, hO⟩
  clear HO
  have HO := Lib.hid hO
  clear hO
  go_wp2_with fail
  go_loopg [10, 11] n (fun k wv iv wr => ∃ (i : Nat) (S : Ar), i ≤ n ∧ k = n - i ∧ wv = .int .i64 (wonAt had zs i) ∧ iv = .int .i64 i ∧ Own w wr b S ∧ S.get 0 = some (hasAt had zs i))
  case atStart => exact ⟨0, _, Nat.zero_le _, rfl, rfl, rfl, HO.out, rfl⟩
  case round =>
    obtain ⟨i, S, hi, hk, rfl, rfl, hO, h0⟩ := hrel
    clear HO
    have HO := Lib.hid hO
    have HKK := Lib.hid hk
    clear hO hk
    have hran := wonAt_range had zs i
    have hwon := hasAt_won had zs i
    by_cases hlt : i < n
    · have hd : decide ((i : Int) < (n : Int)) = true := by simp; omega
      have c1 := HO.out.kept.cell (HC.out i (by rw [← HN.out]; exact hlt)) (by simp)
      by_cases hw0 : wonAt had zs i < 0
      · have hw1 : wonAt had zs i = -1 := by omega
        have hstep := hasAt_step had zs i hw0
        have hnext : wonAt had zs (i + 1) = if zs.getD i 0 = had then -1 else (i : Int) := by
          show (if wonAt had zs i < 0 then _ else _) = _
          rw [if_pos hw0]
        rw [hwon.2 hw0] at h0
        rw [hw1]
        have HSN := Lib.hid (And.intro hstep hnext)
        have H0 := Lib.hid h0
        clear hstep hnext h0 hw0 hw1 hran hwon
        by_cases hx : zs[i]?.getD 0 = had
        · have hx1 : (zs[i]?.getD 0 == had) = true := by simpa using hx
          have hx2 : (zs[i]?.getD 0 != had) = false := by simpa using hx
          have HX := Lib.hid hx
          clear hx
          go_wp2_with fail
          refine (own_cas HO.out 0 _ _ H0.out).mono ?_
          rintro e w4 ⟨rfl, hO⟩
          clear HO
          have HO := Lib.hid hO
          clear hO
          have c1 := HO.out.kept.cell (HC.out i (by rw [← HN.out]; exact hlt)) (by simp)
          go_wp2_with fail
          go_roundg (n - (i + 1))
          case measure => rw [HKK.out]; omega
          case rel => exact ⟨i + 1, _, by omega, rfl, by rw [HSN.out.2, if_pos (by simpa using HX.out)], by go_num, HO.out, by rw [HSN.out.1]; simp [Ar.put, Ar.step]⟩
        · have hx1 : (zs[i]?.getD 0 == had) = false := by simpa using hx
          have hx2 : (zs[i]?.getD 0 != had) = true := by simpa using hx
          have HX := Lib.hid hx
          clear hx
          go_wp2_with fail
          refine (own_cas HO.out 0 _ _ H0.out).mono ?_
          rintro e w4 ⟨rfl, hO⟩
          clear HO
          have HO := Lib.hid hO
          clear hO
          have c1 := HO.out.kept.cell (HC.out i (by rw [← HN.out]; exact hlt)) (by simp)
          go_wp2_with fail
          go_roundg (n - (i + 1))
          case measure => rw [HKK.out]; omega
          case rel => exact ⟨i + 1, _, by omega, rfl, by rw [HSN.out.2, if_neg (by simpa using HX.out)], by go_num, HO.out, by rw [HSN.out.1]; simp [Ar.put, Ar.step]⟩
      · have hne : hasAt had zs i ≠ had := fun e => hw0 (hwon.1 e)
        have hst := stay_step had zs i hw0
        have HST := Lib.hid hst
        have HNE := Lib.hid hne
        have H0 := Lib.hid h0
        have hw2 : decide (wonAt had zs i < 0) = false := by simpa using hw0
        clear hst hne h0 hran hwon
        go_wp2_with fail
        refine (own_cas_not HO.out 0 _ _ _ H0.out HNE.out).mono ?_
        rintro e w4 ⟨rfl, hO⟩
        clear HO
        have HO := Lib.hid hO
        clear hO
        go_wp2_with fail
        go_roundg (n - (i + 1))
        case measure => rw [HKK.out]; omega
        case rel => exact ⟨i + 1, _, by omega, rfl, by rw [HST.out.1], by go_num, HO.out, by rw [HST.out.2]; exact H0.out⟩
    · have hd : decide ((i : Int) < (n : Int)) = false := by simp; omega
      by_cases hw0 : wonAt had zs i < 0
      · rw [hwon.2 hw0] at h0
        have hw1 : wonAt had zs i = -1 := by omega
        rw [hw1]
        have H0 := Lib.hid h0
        clear h0 hw0 hw1 hran hwon
        go_wp2_with fail
        refine (own_load HO.out 0 _ H0.out).mono ?_
        rintro e w4 ⟨rfl, hO⟩
        clear HO
        have HO := Lib.hid hO
        clear hO
        go_wp2_with fail
        go_ret
        exact ⟨rfl, HO.out.kept⟩
      · obtain ⟨j, hj⟩ := Int.eq_ofNat_of_zero_le (a := wonAt had zs i) (by omega)
        have hjn : j < n := by omega
        have hval : hasAt had zs i = zs[j]?.getD 0 := by
          unfold hasAt
          rw [if_neg hw0, hj]
          simp
        rw [hval] at h0
        rw [hj]
        have H0 := Lib.hid h0
        clear h0 hw0 hran hwon hj hval
        go_wp2_with fail
        refine (own_load HO.out 0 _ H0.out).mono ?_
        rintro e w4 ⟨rfl, hO⟩
        clear HO
        have HO := Lib.hid hO
        clear hO
        have c1 := HO.out.kept.cell (HC.out j (by rw [← HN.out]; exact hjn)) (by simp)
        have hge : decide ((j : Int) ≥ 0) = true := by simp
        go_wp2_with fail
        go_ret
        exact ⟨rfl, HO.out.kept⟩

set_option maxHeartbeats 4000000 in
set_option maxRecDepth 100000 in
theorem once_walk_none (w : World) (hT : TabAt w) (had : Int) (p : Option Addr) (cap : Nat) :
    Calls Tryd.prog 4 #[.int .u64 had, .slice p 0 cap] w fun e w' => e = .returned (.bool true) ∧ Kept [] w w' := by
  have HT := Lib.hid hT
  clear hT
  go_enter Tryd.func4, Tryd.ntmps4
  go_wp2_with fail
  refine (shown_calls w HT.out).mono ?_
  rintro e w0 ⟨rfl, hk0⟩
  have HK0 := Lib.hid hk0
  clear hk0
  go_wp2_with fail
  refine (own_new HK0.out 1 (by omega) (by omega)).mono ?_
  rintro e w1 ⟨b, rfl, hO⟩
  have HO := Lib.hid hO
  clear hO
  go_wp2_with fail
  refine (own_alloc HO.out HT.out 0 (by decide) rfl (by omega)).mono ?_
  rintro e w2 ⟨rfl, hO⟩
  clear HO
  have HO := Lib.hid hO
  clear hO
  go_wp2_with fail
  refine (own_store HO.out 0 0 had rfl).mono ?_
  rintro e w3 ⟨rfl, hO⟩
  clear HO
  have HO := Lib.hid hO
  clear hO
  go_wp2_with fail
  go_loopg [10, 11] 1 (fun k wv iv wr => wv = .int .i64 (-1) ∧ iv = .int .i64 0 ∧ ∃ S, Own w wr b S ∧ S.get 0 = some had)
  case atStart => exact ⟨rfl, rfl, _, HO.out, rfl⟩
  case round =>
    obtain ⟨rfl, rfl, S, hO, h0⟩ := hrel
    clear HO
    have HO := Lib.hid hO
    have H0 := Lib.hid h0
    clear hO h0
    go_wp2_with fail
    refine (own_load HO.out 0 _ H0.out).mono ?_
    rintro e w4 ⟨rfl, hO⟩
    clear HO
    have HO := Lib.hid hO
    clear hO
    go_wp2_with fail
    go_ret
    exact ⟨rfl, HO.out.kept⟩
end Go.Proofs.YtngmimhpeeahoaaDoor
