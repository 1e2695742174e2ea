/- The walk of StoreBack: true at all numbers, and nothing that was there has changed. -/
import Derived.Test.YtlaffmdflleeeaaDoorStoreShown
import Derived.Test.YtlaffmdflleeeaaDoorPlainBack11
import Derived.Test.YtlaffmdflleeeaaDoorStoreDrop
namespace Go.Proofs.YtlaffmdflleeeaaDoor
open Go Go.RowKit
set_option linter.unusedVariables false

variable {o : List Nat} {w0 w : World}

theorem wrap64_in (n : Int) (h : -9223372036854775808 ≤ n ∧ n ≤ 9223372036854775807) : wrap64 n = n := by unfold wrap64; omega

theorem mod20 (k : Int) : 0 ≤ (wrap64 (k.tmod 20 + 20)).tmod 20 ∧ (wrap64 (k.tmod 20 + 20)).tmod 20 ≤ 19 := by
  have h1 := Int.tmod_lt_of_pos k (b := 20) (by omega)
  have h2 := Int.lt_tmod_of_pos k (b := 20) (by omega)
  generalize k.tmod 20 = m at *
  rw [wrap64_in (m + 20) (by omega), Int.tmod_eq_emod_of_nonneg (by omega)]
  omega

set_option maxHeartbeats 4000000 in
set_option maxRecDepth 100000 in
theorem back11_no (w : World) (hT : TabAt w) (v : Value) (t : Int) (ht : t < 0 ∨ 100 < t) :
    Calls Tryd.prog 5 #[v, .int .i64 t] w fun e w' => e = .returned (.bool true) ∧ Kept [] w w' := by
  have HT := Lib.hid hT
  clear hT
  go_enter Tryd.func5, Tryd.ntmps5
  go_wp2_with fail
  refine (shown_calls w HT.out).mono ?_
  rintro e w1 ⟨rfl, hk⟩
  have HK := Lib.hid hk
  clear hk
  go_wp2_with fail
  refine (new_both w w1 HK.out 3000 (by omega) (by omega)).mono ?_
  rintro e w2 ⟨ab, rfl, hA⟩
  have HA := Lib.hid hA
  clear hA
  go_wp2_with fail
  refine (new_store (by omega) HA.out).mono ?_
  rintro e w3 ⟨b, rfl, hX⟩
  have HX := Lib.hid hX
  clear hX HA
  by_cases h1 : t < 0
  · have f1 : decide (t < 0) = true := by simpa using h1
    go_wp2_with fail
    go_ret
    exact ⟨rfl, HX.out.keeps⟩
  · have f1 : decide (t < 0) = false := by simpa using h1
    have f2 : decide (t > 100) = true := by simp; omega
    go_wp2_with fail
    go_ret
    exact ⟨rfl, HX.out.keeps⟩

set_option maxHeartbeats 16000000 in
set_option maxRecDepth 100000 in
theorem back11_law (w : World) (hT : TabAt w) (n : Nat) (z : Nat → Int) (q : Option Addr) (qcap : Nat) (t : Nat) (hn : n ≤ 140737488351232) (ht : t ≤ 100) (hp : 0 < n → ∃ b off, q = some ⟨b, off, none⟩ ∧ b < w.heap.size ∧ ∀ i, i < n → w.cell? ⟨b, off + i, none⟩ = some (.int .i64 (z i))) :
    Calls Tryd.prog 5 #[.slice q n qcap, .int .i64 (t : Int)] w fun e w' => e = .returned (.bool true) ∧ Kept [] w w' := by
  have HT := Lib.hid hT
  have HP := Lib.hid hp
  clear hT hp
  have f1 : decide ((t : Int) < 0) = false := by simp
  have f2 : decide ((t : Int) > 100) = false := by simp; omega
  have f2' : decide (100 < t) = false := by simp; omega
  go_enter Tryd.func5, Tryd.ntmps5
  go_wp2_with fail
  refine (shown_calls w HT.out).mono ?_
  rintro e w1 ⟨rfl, hk⟩
  have HK := Lib.hid hk
  clear hk
  go_wp2_with fail
  refine (new_both w w1 HK.out 3000 (by omega) (by omega)).mono ?_
  rintro e w2 ⟨ab, rfl, hA⟩
  have HA := Lib.hid hA
  clear hA
  go_wp2_with fail
  refine (new_store (by omega) HA.out).mono ?_
  rintro e w3 ⟨b, rfl, hX⟩
  have HX := Lib.hid hX
  clear hX HA
  go_wp2_with fail
  go_loopg [10, 11] n (fun k nv iv wr => ∃ (i : Nat) (A : ASt), i ≤ n ∧ k = n - i ∧ i ≤ 20 ∧ nv = .int .i64 i ∧ iv = .int .i64 i ∧ A.nN = i ∧ A.nV ≤ 20 * i ∧ A.used = 2 * i ∧ A.size = 3000 ∧ A.ab = ab ∧ A.nT = 0 ∧ Has [] w wr (.store b A))
  case atStart => exact ⟨0, _, Nat.zero_le _, rfl, by omega, rfl, rfl, rfl, Nat.le_refl _, rfl, rfl, rfl, rfl, HX.out⟩
  case round =>
    clear HX
    obtain ⟨i, A, hi, hk, hi20, rfl, rfl, hnN, hnV, hus, hsz, hab, hnT, hX⟩ := hrel
    have HKK := Lib.hid hk
    have HX := Lib.hid hX
    have HNN := Lib.hid hnN
    have HNV := Lib.hid hnV
    have HUS := Lib.hid hus
    have HSZ := Lib.hid hsz
    have HAB := Lib.hid hab
    have HNT := Lib.hid hnT
    clear hk hX hnN hnV hus hsz hab hnT
    by_cases hlt : i < n ∧ i < 20
    · obtain ⟨hlt, hlt2⟩ := hlt
      have hd : decide ((i : Int) < (n : Int)) = true := by simp; omega
      have hd' : decide (i < n) = true := by simp; omega
      have hdd : decide ((i : Int) < 20) = true := by simp; omega
      have hdd' : decide (i < 20) = true := by simp; omega
      obtain ⟨qb, qoff, rfl, _, hc⟩ := HP.out (by omega)
      have HC := Lib.hid (hc i hlt)
      clear hc
      obtain ⟨k, hkk⟩ := Int.eq_ofNat_of_zero_le (mod20 (z i)).1
      have hk19 : k ≤ 19 := by have := (mod20 (z i)).2; omega
      generalize z i = zi at *
      have HND := Lib.hid (show Calls Tryd.prog 16 #[.pointer (some ⟨b, 0, none⟩)] wr fun e w' => e = .returned (.tuple #[.int .i64 ((i : Int) + 1), .int .i64 0]) ∧ ∃ st, Has [] w w' (.store b (A.addNode st)) from by
        have h := node_make HX.out HT.out tab_nil (by rw [HUS.out, HSZ.out]; omega)
        rw [HNN.out] at h
        exact h)
      clear HX
      go_wp2_with fail
      refine HND.out.mono ?_
      rintro e w4 ⟨rfl, st4, hX⟩
      have c0 := hX.keeps.cell HC.out (by simp)
      obtain ⟨B, hB⟩ : ∃ B, B = A.nV := ⟨_, rfl⟩
      have hbk : BkSt i B 0 (A.addNode st4) := by rw [hB]; exact BkSt.start HNN.out st4
      have hu4 : (A.addNode st4).used = 2 * i + 2 := by rw [addNode_used, HUS.out]
      have hs4 : (A.addNode st4).size = 3000 := HSZ.out
      have hb4 : (A.addNode st4).ab = ab := HAB.out
      have ht4 : (A.addNode st4).nT = 0 := HNT.out
      have hB9 : B ≤ 20 * i := by rw [hB]; exact HNV.out
      generalize A.addNode st4 = A4 at *
      have HBK := Lib.hid hbk
      have HX4 := Lib.hid hX
      have HU4 := Lib.hid hu4
      have HS4 := Lib.hid hs4
      have HB4 := Lib.hid hb4
      have HT4 := Lib.hid ht4
      clear hX HND hbk hu4 hs4 hb4 ht4 hB HNN HNV HUS HSZ HAB HNT
      go_wp2_with fail
      go_loopg [14, 16] k (fun r lv vv wx => ∃ (v : Nat) (A' : ASt), v ≤ k ∧ r = k - v ∧ lv = .int .i64 (bh B v) ∧ vv = .int .i64 v ∧ BkSt i B v A' ∧ A'.used = 2 * i + 2 + 3 * v ∧ A'.size = 3000 ∧ A'.ab = ab ∧ A'.nT = 0 ∧ Has [] w wx (.store b A'))
      case atStart => exact ⟨0, _, Nat.zero_le _, rfl, rfl, rfl, HBK.out, HU4.out, HS4.out, HB4.out, HT4.out, HX4.out⟩
      case round =>
        clear HX4 HBK HU4 HS4 HB4 HT4
        obtain ⟨v, A5, hv, hr5, rfl, rfl, hbk, hu, hs, ha, ht0, hX⟩ := hrel
        have HKR := Lib.hid hr5
        have HBK := Lib.hid hbk
        have HX := Lib.hid hX
        have HU := Lib.hid hu
        have HS := Lib.hid hs
        have HA5 := Lib.hid ha
        have HT5 := Lib.hid ht0
        clear hr5 hbk hX hu hs ha ht0
        by_cases hvk : v < k
        · have g1 : decide ((v : Int) < (k : Int)) = true := by simp; omega
          have g1' : decide (v < k) = true := by simp; omega
          have hw9 : IntKind.u64.wrap (v : Int) = v := by unfold IntKind.wrap; simp [IntKind.bits, IntKind.signed]; omega
          have HV1 := Lib.hid (show Calls Tryd.prog 12 #[.pointer (some ⟨b, 0, none⟩), .string ⟨#[118]⟩, .int .u64 (v : Int), .int .i64 (bh B v)] _ fun e w' => e = .returned (.tuple #[.int .i64 ((B : Int) + (v : Int) + 1), .int .i64 0]) ∧ ∃ st, Has [] w w' (.store b (A5.addVer st ⟨#[118]⟩ (v : Int) (bh B v))) from by
            have h := version_ok (val := ⟨#[118]⟩) (bg := (v : Int)) HBK.out.nxOk HX.out HT.out tab_nil (by rw [HU.out, HS.out]; omega) (by decide) (by omega) (by omega) (by unfold wBegins wOk; simp; omega) (by rw [HBK.out.nV]; omega)
            rw [HBK.out.nV, show (((B + v : Nat) : Int) + 1) = (B : Int) + (v : Int) + 1 by omega] at h
            exact h)
          clear HX
          go_wp2_with fail
          refine HV1.out.mono ?_
          rintro e w6 ⟨rfl, s6, hX⟩
          have HP1 := Lib.hid (show Calls Tryd.prog 17 #[.pointer (some ⟨b, 0, none⟩), .int .i64 ((i : Int) + 1), .int .i64 (bh B v), .int .i64 ((B : Int) + (v : Int) + 1)] w6 fun e w' => e = .returned (.tuple #[.bool true, .int .i64 0]) ∧ Has [] w w' (.store b ((A5.addVer s6 ⟨#[118]⟩ (v : Int) (bh B v)).step.set (.head i) ((B : Int) + (v : Int) + 1))) from by
            have hv1 := (addVer_new A5 s6 ⟨#[118]⟩ (v : Int) (bh B v)).1
            rw [HBK.out.nV] at hv1
            have h := push_ok hX i (B + v) (bh B v) (nxOk_addVer HBK.out.nxOk _ _ _ _) (addVer_at _ _ _ _ _ _ _ HBK.out.hd) hv1 (by show A5.nV + 1 ≤ _; rw [HBK.out.nV]; omega)
            rw [show (((B + v : Nat) : Int) + 1) = (B : Int) + (v : Int) + 1 by omega] at h
            exact h)
          clear hX HV1
          go_wp2_with fail
          refine HP1.out.mono ?_
          rintro e w7 ⟨rfl, hX⟩
          have HX7 := Lib.hid hX
          have HGU := Lib.hid (BkSt.growUsed (p := i) (A := A5) s6 ⟨#[118]⟩ (v : Int) (bh B v) ((B : Int) + (v : Int) + 1))
          have HG := Lib.hid (HBK.out.grow s6 ⟨#[118]⟩ (v : Int))
          have EB := Lib.hid (show bh B (v + 1) = (B : Int) + (v : Int) + 1 by rw [bh, if_neg (by omega)]; omega)
          clear hX HP1
          go_wp2_with fail
          go_roundg (k - (v + 1))
          case measure => rw [HKR.out]; omega
          case rel => exact ⟨v + 1, _, by omega, rfl, by rw [EB.out], by go_num, HG.out, by rw [HGU.out.1, HU.out]; omega, by rw [HGU.out.2.1, HS.out], by rw [HGU.out.2.2.1, HA5.out], by rw [HGU.out.2.2.2, HT5.out], HX7.out⟩
        · have g1 : decide ((v : Int) < (k : Int)) = false := by simp; omega
          have g1' : decide (v < k) = false := by simp; omega
          obtain rfl : v = k := by omega
          by_cases hv0 : 0 < v
          · have g2 : decide ((v : Int) > 0) = true := by simp; omega
            have g2' : decide (0 < v) = true := by simp; omega
            obtain ⟨u, hu⟩ : ∃ u, v = u + 1 := ⟨v - 1, by omega⟩
            have hbu := HBK.out
            rw [hu] at hbu
            have HBU := Lib.hid hbu
            have HBE := Lib.hid hbu.end_
            have HBN := Lib.hid hbu.endNum
            have HUE := Lib.hid hu
            have hbv : bh B v = (B : Int) + (u : Int) + 1 := by rw [bh, if_neg (by omega)]; omega
            have HCUT := Lib.hid (show Calls Tryd.prog 19 #[.pointer (some ⟨b, 0, none⟩), .int .i64 (bh B v)] _ fun e w' => e = .returned (.tuple #[.int .i64 (u : Int), .int .i64 0]) ∧ ∃ st, Has [] w w' (.store b (((A5.at st).set (.next (B + u)) 0).goneAll (bdn B u))) from by
              have h := cut_at HX.out (B + u) (bh B u) (hbu.nx u (by omega)) (by rw [hbu.nV]; omega)
              rw [hbu.chain u _ (by omega) (by unfold bh; split <;> omega), bdn_len, show (((B + u : Nat) : Int) + 1) = (B : Int) + (u : Int) + 1 by omega, ← hbv] at h
              exact h)
            have g3 : decide ((u : Int) = (v : Int) - 1) = true := by simp; omega
            have g4 : ((u : Int) == (v : Int) - 1) = true := by simp; omega
            have g5 : ((u : Int) != (v : Int) - 1) = false := by simp; omega
            clear HX hbu hu hbv
            go_wp2_with fail
            refine HCUT.out.mono ?_
            rintro e w8 ⟨rfl, s8, hX⟩
            have HDR := Lib.hid (show Calls Tryd.prog 20 #[.pointer (some ⟨b, 0, none⟩), .int .i64 ((i : Int) + 1)] w8 fun e w' => e = .returned (.int .i64 0) ∧ ∃ st, Has [] w w' (.store b ((((((A5.at s8).set (.next (B + u)) 0).goneAll (bdn B u)).at st).set (.head i) 0).goneV (B + u))) from
              drop_at hX i (B + u) 0 (HBE.out s8 0).1 (HBE.out s8 0).2.1 (by rw [goneAll_nV, ASt.nV_set]; show A5.nV ≤ _; rw [HBU.out.nV]; have := HUE.out; omega))
            clear hX HCUT
            go_wp2_with fail
            refine HDR.out.mono ?_
            rintro e w9 ⟨rfl, s9, hX⟩
            have HX9 := Lib.hid hX
            have HE9 := Lib.hid (HBE.out s8 s9).2.2
            have HN9 := Lib.hid (HBN.out s8 s9)
            clear hX HDR
            go_wp2_with fail
            go_roundg (n - (i + 1))
            case measure => rw [HKK.out]; omega
            case rel => exact ⟨i + 1, _, by omega, rfl, by omega, by go_num, by go_num, HN9.out.1, by rw [HN9.out.2.1]; have := HUE.out; omega, by have h1 := HE9.out; have h2 := HU.out; have h3 := HUE.out; omega, by rw [HN9.out.2.2.1, HS.out], by rw [HN9.out.2.2.2.1, HA5.out], by rw [HN9.out.2.2.2.2, HT5.out], HX9.out⟩
          · have g2 : decide ((v : Int) > 0) = false := by simp; omega
            have g2' : decide (0 < v) = false := by simp; omega
            obtain rfl : v = 0 := by omega
            go_wp2_with fail
            go_roundg (n - (i + 1))
            case measure => rw [HKK.out]; omega
            case rel => exact ⟨i + 1, _, by omega, rfl, by omega, by go_num, by go_num, HBK.out.nN, by rw [HBK.out.nV]; omega, by rw [HU.out]; omega, HS.out, HA5.out, HT5.out, HX.out⟩
    · have hstop : (i < n ∧ decide ((i : Int) < (n : Int)) = true ∧ decide (i < n) = true ∧ decide ((i : Int) < 20) = false ∧ decide (i < 20) = false) ∨ (decide ((i : Int) < (n : Int)) = false ∧ decide (i < n) = false) := by
        by_cases h1 : i < n
        · left; simp; omega
        · right; simp; omega
      rcases hstop with ⟨_, x1, x2, x3, x4⟩ | ⟨x1, x2⟩
      all_goals (
        go_wp2_with fail
        go_loopg [24] t (fun r jv wx => ∃ (j : Nat) (A' : ASt), j ≤ t ∧ r = t - j ∧ jv = .int .i64 j ∧ A'.nT = j ∧ A'.used = 2 * i ∧ A'.size = 3000 ∧ A'.ab = ab ∧ Has [] w wx (.store b A'))
        case atStart => exact ⟨0, _, Nat.zero_le _, rfl, rfl, HNT.out, HUS.out, HSZ.out, HAB.out, HX.out⟩
        case round =>
          clear HX HNN HNV HUS HSZ HAB HNT
          obtain ⟨j, A5, hj, hr5, rfl, hnt, hu, hs, ha, hX⟩ := hrel
          have HKR := Lib.hid hr5
          have HX := Lib.hid hX
          have HU := Lib.hid hu
          have HS := Lib.hid hs
          have HA5 := Lib.hid ha
          have HT5 := Lib.hid hnt
          clear hr5 hX hu hs ha hnt
          by_cases hjt : j < t
          · have g1 : decide ((j : Int) < (t : Int)) = true := by simp; omega
            have g1' : decide (j < t) = true := by simp; omega
            have HTX := Lib.hid (show Calls Tryd.prog 22 #[.pointer (some ⟨b, 0, none⟩)] _ fun e w' => e = .returned (.tuple #[.int .i64 ((j : Int) + 1), .int .i64 0]) ∧ ∃ st, Has [] w w' (.store b (A5.addTxn st)) from by
              have h := txn_make HX.out HT.out tab_nil (by rw [HU.out, HS.out]; omega) (by rw [HT5.out]; omega)
              rw [HT5.out] at h
              exact h)
            clear HX
            go_wp2_with fail
            refine HTX.out.mono ?_
            rintro e w8 ⟨rfl, s8, hX⟩
            have htx := addTxn_txn A5 s8
            have hut := goneT_used htx
            rw [addTxn_used, HU.out] at hut
            rw [HT5.out] at htx hut
            have HFG := Lib.hid (forget_at hX j htx)
            have HUT := Lib.hid hut
            clear hX HTX htx hut
            go_wp2_with fail
            refine HFG.out.mono ?_
            rintro e w9 ⟨rfl, hX⟩
            have HX9 := Lib.hid hX
            clear hX HFG
            go_wp2_with fail
            go_roundg (t - (j + 1))
            case measure => rw [HKR.out]; omega
            case rel => exact ⟨j + 1, (A5.addTxn s8).goneT j, by omega, rfl, by go_num, by show A5.nT + 1 = _; rw [HT5.out], by have := HUT.out; omega, HS.out, HA5.out, HX9.out⟩
          · have g1 : decide ((j : Int) < (t : Int)) = false := by simp; omega
            have g1' : decide (j < t) = false := by simp; omega
            have HUA := Lib.hid (show Calls Tryd.prog 24 #[.pointer (some ⟨ab, 0, none⟩)] _ fun e w' => e = .returned (.int .i64 (2 * (i : Int))) ∧ w' = _ from by
              have h := used_at HX.out
              rw [HA5.out, HU.out, show (((2 * i : Nat)) : Int) = 2 * (i : Int) by omega] at h
              exact h)
            have HKX := Lib.hid HX.out.keeps
            clear HX
            go_wp2_with fail
            refine HUA.out.mono ?_
            rintro e w9 ⟨rfl, rfl⟩
            go_wp2_with fail
            go_ret
            exact ⟨by simp, HKX.out⟩)
end Go.Proofs.YtlaffmdflleeeaaDoor
