/- The walk of StoreApart: true at all texts and numbers, and nothing that was there has changed. -/
import Derived.Test.YtlaffmdflleeeaaDoorStoreShown
import Derived.Test.YtlaffmdflleeeaaDoorPlainApart11
import Derived.Test.YtlaffmdflleeeaaDoorStoreDrop
import Derived.Test.YtlaffmdflleeeaaDoorStoreVerNo
import Derived.Test.YtlaffmdflleeeaaDoorInts11
namespace Go.Proofs.YtlaffmdflleeeaaDoor
open Go Go.RowKit
set_option linter.unusedVariables false

variable {o : List Nat} {w0 w : World}

/-- The store beside other things. -/
theorem Has.storeOf {b : Nat} {A : ASt} {B : Part} (h : Has o w0 w ((Part.store b A).sep B)) : ∃ o', Has o' w w (Part.store b A) ∧ (∀ w' A', Has o' w w' (.store b A') → Has o w0 w' ((Part.store b A').sep B)) ∧ ∀ w' A' C, Has o' w w' ((Part.store b A').sep C) → Has o w0 w' ((Part.store b A').sep (C.sep B)) := by
  obtain ⟨o', h1, _, _, b1⟩ := h.left
  exact ⟨o', h1, fun w' A' h' => b1 _ _ h', fun w' A' C h' => (b1 _ _ h').assoc⟩

theorem Has.numsOf {v : Value} {cs : List Nat} {A B : Part} (h : Has o w0 w (A.sep ((Part.nums v cs).sep B))) : RowAt w v cs.length (fun i => .int .i64 ((cs.getD i 0 : Nat) : Int)) := by
  obtain ⟨_, h1, _⟩ := h.right
  obtain ⟨_, h2, _⟩ := h1.left
  exact nums_rowAt h2
theorem Has.numsEnd {v : Value} {cs : List Nat} {A : Part} (h : Has o w0 w (A.sep (.nums v cs))) : RowAt w v cs.length (fun i => .int .i64 ((cs.getD i 0 : Nat) : Int)) := by
  obtain ⟨_, h1, _⟩ := h.right
  exact nums_rowAt h1
theorem Has.skip {A B C : Part} (h : Has o w0 w (A.sep (B.sep C))) : ∃ o', Has o' w w (B.sep C) := by
  obtain ⟨o', h1, _⟩ := h.right
  exact ⟨o', h1⟩

set_option maxHeartbeats 16000000 in
set_option maxRecDepth 100000 in
theorem apart11_law (w : World) (hT : TabAt w) (n : Nat) (z : Nat → ByteArray) (q : Option Addr) (qcap : Nat) (cut : Int) (hn : n ≤ 140737488351232) (hc0 : -9223372036854775808 ≤ cut) (hc1 : cut < 9223372036854775808) (hp : 0 < n → ∃ b off, q = some ⟨b, off, none⟩ ∧ b < w.heap.size ∧ ∀ i, i < n → w.cell? ⟨b, off + i, none⟩ = some (.string (z i))) :
    Calls Tryd.prog 4 #[.slice q n qcap, .int .i64 cut] w fun e w' => e = .returned (.bool true) ∧ Kept [] w w' := by
  have HT := Lib.hid hT
  have HP := Lib.hid hp
  clear hT hp
  go_enter Tryd.func4, Tryd.ntmps4
  go_wp2_with fail
  refine (shown_calls w HT.out).mono ?_
  rintro e w1 ⟨rfl, hk⟩
  have HK := Lib.hid hk
  clear hk
  go_wp2_with fail
  refine (new_both w w1 HK.out 1000 (by omega) (by omega)).mono ?_
  rintro e w2 ⟨ab, rfl, hA⟩
  have HA := Lib.hid hA
  clear hA
  go_wp2_with fail
  refine (new_store (by omega) HA.out).mono ?_
  rintro e w3 ⟨b, rfl, hX⟩
  have HN := Lib.hid (show Calls Tryd.prog 16 #[.pointer (some ⟨b, 0, none⟩)] w3 fun e w' => e = .returned (.tuple #[.int .i64 1, .int .i64 0]) ∧ ∃ st, Has [] w w' (.store b ((newSt ab 1000 0).addNode st)) from node_make hX HT.out tab_nil (by show (0 : Nat) + 2 ≤ 1000; omega))
  clear hX HA
  go_wp2_with fail
  refine HN.out.mono ?_
  rintro e w4 ⟨rfl, st4, hX⟩
  have HN2 := Lib.hid (show Calls Tryd.prog 16 #[.pointer (some ⟨b, 0, none⟩)] w4 fun e w' => e = .returned (.tuple #[.int .i64 2, .int .i64 0]) ∧ ∃ st, Has [] w w' (.store b (((newSt ab 1000 0).addNode st4).addNode st)) from node_make hX HT.out tab_nil (by show (2 : Nat) + 2 ≤ 1000; omega))
  clear hX HN
  go_wp2_with fail
  refine HN2.out.mono ?_
  rintro e w5 ⟨rfl, st5, hX5⟩
  have HX5 := Lib.hid hX5
  clear hX5 HN2
  go_wp2_with fail
  go_loopg [14, 15, 16] n (fun k ov tv iv wr => ∃ (i m : Nat) (A : ASt), i ≤ n ∧ k = n - i ∧ m ≤ i ∧ i ≤ 100 ∧ iv = .int .i64 i ∧ ov = .int .i64 (xh 0 m) ∧ tv = .int .i64 (2 * (m : Int)) ∧ ApSt m 0 m A ∧ A.used = 4 + 6 * m ∧ A.size = 1000 ∧ Has [] w wr (.store b A))
  case atStart => exact ⟨0, 0, _, Nat.zero_le _, rfl, Nat.le_refl _, by omega, rfl, rfl, rfl, ApSt.start ab st4 st5, rfl, rfl, HX5.out⟩
  case round =>
    clear HX5
    obtain ⟨i, m, A, hi, hk, hmi, hi100, rfl, rfl, rfl, hap, hus, hsz, hX⟩ := hrel
    have HKK := Lib.hid hk
    have HX := Lib.hid hX
    have HAP := Lib.hid hap
    have HUS := Lib.hid hus
    have HSZ := Lib.hid hsz
    have h99 : i ≤ 9223372036854775806 := by omega
    clear hk hX hap hus hsz
    by_cases hlt : i < n ∧ i < 100
    · obtain ⟨hlt, hlt2⟩ := hlt
      have hd : decide ((i : Int) < (n : Int)) = true := by simp; omega
      have hd' : decide (i < n) = true := by simp; omega
      have hdd : decide ((i : Int) < 100) = true := by simp; omega
      have hdd' : decide (i < 100) = true := by simp; omega
      have hw9 : IntKind.u64.wrap (i : Int) = i := by unfold IntKind.wrap; simp [IntKind.bits, IntKind.signed]; omega
      obtain ⟨qb, qoff, rfl, _, hc⟩ := HP.out (by omega)
      have c0 := HX.out.keeps.cell (hc i hlt) (by simp)
      have HC := Lib.hid (hc i hlt)
      clear hc
      generalize z i = s at *
      have hx9 : 0 ≤ xh 0 m ∧ xh 0 m ≤ 200 := by unfold xh; split <;> omega
      by_cases hlong : 64 < s.size
      · have HV1 := Lib.hid (version_long wr b s i (xh 0 m) hlong)
        have HV2 := Lib.hid (version_long wr b s i (2 * (m : Int)) hlong)
        go_wp2_with fail
        refine HV1.out.mono ?_
        rintro e w6 ⟨rfl, rfl⟩
        go_wp2_with fail
        refine HV2.out.mono ?_
        rintro e w6 ⟨rfl, rfl⟩
        go_wp2_with fail
        go_roundg (n - (i + 1))
        case measure => rw [HKK.out]; omega
        case rel => exact ⟨i + 1, m, A, by omega, rfl, by omega, by omega, by go_num, rfl, rfl, HAP.out, HUS.out, HSZ.out, HX.out⟩
      · have hbw : wBegins (i : Int) = true := by unfold wBegins wOk; simp; omega
        have hnv := HAP.out.nV
        have HV1 := Lib.hid (show Calls Tryd.prog 12 #[.pointer (some ⟨b, 0, none⟩), .string s, .int .u64 (i : Int), .int .i64 (xh 0 m)] wr fun e w' => e = .returned (.tuple #[.int .i64 (2 * (m : Int) + 1), .int .i64 0]) ∧ ∃ st, Has [] w w' (.store b (A.addVer st s (i : Int) (xh 0 m))) from by
          have h := version_ok (val := s) (bg := (i : Int)) HAP.out.xnx HX.out HT.out tab_nil (by rw [HUS.out, HSZ.out]; omega) (by omega) (by omega) (by omega) hbw (by omega)
          rw [hnv, show (((2 * m : Nat) : Int) + 1) = 2 * (m : Int) + 1 by omega] at h
          exact h)
        clear hnv HX
        go_wp2_with fail
        refine HV1.out.mono ?_
        rintro e w6 ⟨rfl, s6, hX⟩
        have HV2 := Lib.hid (show Calls Tryd.prog 12 #[.pointer (some ⟨b, 0, none⟩), .string s, .int .u64 (i : Int), .int .i64 (2 * (m : Int))] w6 fun e w' => e = .returned (.tuple #[.int .i64 (2 * (m : Int) + 2), .int .i64 0]) ∧ ∃ st, Has [] w w' (.store b ((A.addVer s6 s (i : Int) (xh 0 m)).addVer st s (i : Int) (2 * (m : Int)))) from by
          have h := version_ok (val := s) (bg := (i : Int)) (nxOk_addVer HAP.out.ynx s6 s (i : Int) (xh 0 m)) hX HT.out tab_nil (by rw [addVer_used, HUS.out]; show _ ≤ A.size; rw [HSZ.out]; omega) (by omega) (by omega) (by omega) hbw (by show A.nV + 1 ≤ _; rw [HAP.out.nV]; omega)
          have e : (A.addVer s6 s (i : Int) (xh 0 m)).nV = 2 * m + 1 := by show A.nV + 1 = _; rw [HAP.out.nV]
          rw [e, show (((2 * m + 1 : Nat) : Int) + 1) = 2 * (m : Int) + 2 by omega] at h
          exact h)
        have c0 := hX.keeps.cell HC.out (by simp)
        clear hX HV1
        go_wp2_with fail
        refine HV2.out.mono ?_
        rintro e w7 ⟨rfl, s7, hX⟩
        have hold : ∀ l v, A.at_ l = some v → ((A.addVer s6 s (i : Int) (xh 0 m)).addVer s7 s (i : Int) (2 * (m : Int))).at_ l = some v := fun l v hl => addVer_at _ _ _ _ _ _ _ (addVer_at _ _ _ _ _ _ _ hl)
        have hv1 : ((A.addVer s6 s (i : Int) (xh 0 m)).addVer s7 s (i : Int) (2 * (m : Int))).ver (2 * m) = true := by
          have h := at_next (addVer_at _ s7 s (i : Int) (2 * (m : Int)) _ _ (addVer_new A s6 s (i : Int) (xh 0 m)).2.2.2)
          rwa [HAP.out.nV] at h
        have hv2 : ((A.addVer s6 s (i : Int) (xh 0 m)).addVer s7 s (i : Int) (2 * (m : Int))).ver (2 * m + 1) = true := by
          have h := (addVer_new (A.addVer s6 s (i : Int) (xh 0 m)) s7 s (i : Int) (2 * (m : Int))).1
          have e : (A.addVer s6 s (i : Int) (xh 0 m)).nV = 2 * m + 1 := by show A.nV + 1 = _; rw [HAP.out.nV]
          rwa [e] at h
        have HP1 := Lib.hid (show Calls Tryd.prog 17 #[.pointer (some ⟨b, 0, none⟩), .int .i64 1, .int .i64 (xh 0 m), .int .i64 (2 * (m : Int) + 1)] w7 fun e w' => e = .returned (.tuple #[.bool true, .int .i64 0]) ∧ Has [] w w' (.store b (((A.addVer s6 s (i : Int) (xh 0 m)).addVer s7 s (i : Int) (2 * (m : Int))).step.set (.head 0) (2 * (m : Int) + 1))) from by
          have h := push_ok hX 0 (2 * m) (xh 0 m) (nxOk_addVer (nxOk_addVer HAP.out.xnx _ _ _ _) _ _ _ _) (hold _ _ HAP.out.hx) hv1 (by show A.nV + 1 + 1 ≤ _; rw [HAP.out.nV]; omega)
          rw [show (((2 * m : Nat) : Int) + 1) = 2 * (m : Int) + 1 by omega] at h
          exact h)
        have HOLD := Lib.hid hold
        have HV22 := Lib.hid hv2
        clear hX HV2 hold hv1 hv2
        go_wp2_with fail
        refine HP1.out.mono ?_
        rintro e w8 ⟨rfl, hX⟩
        have HP2 := Lib.hid (show Calls Tryd.prog 17 #[.pointer (some ⟨b, 0, none⟩), .int .i64 2, .int .i64 (2 * (m : Int)), .int .i64 (2 * (m : Int) + 2)] w8 fun e w' => e = .returned (.tuple #[.bool true, .int .i64 0]) ∧ Has [] w w' (.store b ((((((A.addVer s6 s (i : Int) (xh 0 m)).addVer s7 s (i : Int) (2 * (m : Int))).step).set (.head 0) (2 * (m : Int) + 1)).step).set (.head 1) (2 * (m : Int) + 2))) from by
          have hnx : ((((A.addVer s6 s (i : Int) (xh 0 m)).addVer s7 s (i : Int) (2 * (m : Int))).step).set (.head 0) (2 * (m : Int) + 1)).nxOk (2 * (m : Int)) := by
            rcases nxOk_addVer (nxOk_addVer HAP.out.ynx s6 s (i : Int) (xh 0 m)) s7 s (i : Int) (2 * (m : Int)) with h | ⟨j, h1, h2⟩
            · exact .inl h
            · exact .inr ⟨j, h1, by rw [ASt.ver_set]; exact h2⟩
          have h := push_ok hX 1 (2 * m + 1) (2 * (m : Int)) hnx (set_other (HOLD.out _ _ HAP.out.hy) (by simp)) (by rw [ASt.ver_set]; exact HV22.out) (by rw [ASt.nV_set]; show A.nV + 1 + 1 ≤ _; rw [HAP.out.nV]; omega)
          rw [show (((2 * m + 1 : Nat) : Int) + 1) = 2 * (m : Int) + 2 by omega] at h
          exact h)
        clear hX HP1 HOLD HV22
        go_wp2_with fail
        refine HP2.out.mono ?_
        rintro e w9 ⟨rfl, hX⟩
        have HX9 := Lib.hid hX
        have ex : xh 0 (m + 1) = 2 * (m : Int) + 1 := by rw [xh, if_pos (by omega)]; omega
        have ey : (2 * ((m + 1 : Nat) : Int)) = 2 * (m : Int) + 2 := by omega
        have EX := Lib.hid ex
        have EY := Lib.hid ey
        clear hX HP2 ex ey
        go_wp2_with fail
        go_roundg (n - (i + 1))
        case measure => rw [HKK.out]; omega
        case rel => exact ⟨i + 1, m + 1, _, by omega, rfl, by omega, by omega, by go_num, by rw [EX.out], by rw [EY.out], HAP.out.grow s6 s7 s (i : Int), by rw [(ApSt.growUsed (m := m) s6 s7 s (i : Int) _ _ _ _).1, HUS.out]; omega, by rw [(ApSt.growUsed (m := m) s6 s7 s (i : Int) _ _ _ _).2, HSZ.out], HX9.out⟩
    · have HCH := Lib.hid (show Calls Tryd.prog 18 #[.pointer (some ⟨b, 0, none⟩), .int .i64 2] wr fun e w' => ∃ lv st, e = .returned lv ∧ Has [] w w' ((Part.store b (A.at st)).sep (.nums lv (ydn m))) from by
        have h := Chain_at HX.out 1 (2 * (m : Int)) HAP.out.hy (by rw [HAP.out.nV]; omega)
        rw [HAP.out.ychain m _ (Nat.le_refl _) (by omega)] at h
        exact h)
      have hstop : (i < n ∧ decide ((i : Int) < (n : Int)) = true ∧ decide (i < n) = true ∧ decide ((i : Int) < 100) = false ∧ decide (i < 100) = false) ∨ (decide ((i : Int) < (n : Int)) = false ∧ decide (i < n) = false) := by
        by_cases h1 : i < n
        · left; simp; omega
        · right; simp; omega
      clear HX
      have hm9 : m ≤ 100 := by omega
      rcases hstop with ⟨_, f1, f2, f3, f4⟩ | ⟨f1, f2⟩
      all_goals (
        go_wp2_with fail
        refine HCH.out.mono ?_
        rintro e w6 ⟨wv, st6, rfl, hX⟩
        obtain ⟨o6, h6, b6, c6⟩ := hX.storeOf
        have HCH2 := Lib.hid (show Calls Tryd.prog 18 #[.pointer (some ⟨b, 0, none⟩), .int .i64 1] w6 fun e w' => ∃ lv st, e = .returned lv ∧ Has [] w w' ((Part.store b ((A.at st6).at st)).sep ((Part.nums lv (xdn 0 m)).sep (.nums wv (ydn m)))) from by
          have h := Chain_at h6 0 (xh 0 m) ((HAP.out.at st6).hx) (by rw [(HAP.out.at st6).nV]; omega)
          rw [(HAP.out.at st6).xchain m _ (Nat.le_refl _) (by unfold xh; split <;> omega)] at h
          refine h.mono ?_
          rintro e w' ⟨lv, st, rfl, h'⟩
          exact ⟨lv, st, rfl, c6 _ _ _ h'⟩)
        clear hX h6 b6 c6 HCH
        go_wp2_with fail
        refine HCH2.out.mono ?_
        rintro e w7 ⟨lv, st7, rfl, hX⟩
        obtain ⟨lp, lc, hlv, hLC⟩ := hX.numsOf
        rw [xdn_len, Nat.sub_zero] at hlv hLC
        subst hlv
        obtain ⟨A8, hA8⟩ : ∃ A8, A8 = (A.at st6).at st7 := ⟨_, rfl⟩
        rw [← hA8] at hX
        have hap8 : ApSt m 0 m A8 := by rw [hA8]; exact (HAP.out.at st6).at st7
        have HAP7 := Lib.hid hap8
        have HX7 := Lib.hid hX
        clear hX HCH2 hA8 hap8 HAP HUS HSZ
        by_cases hcut : 0 ≤ cut ∧ cut < (m : Int)
        · have g1 : decide (cut ≥ 0) = true := by simp; omega
          have g2 : decide (cut < (m : Int)) = true := by simp; omega
          obtain ⟨c, rfl⟩ := Int.eq_ofNat_of_zero_le hcut.1
          have g2' : decide (c < m) = true := by simp; omega
          obtain ⟨q, hq⟩ : ∃ q, m = q + 1 + c := ⟨m - 1 - c, by omega⟩
          obtain ⟨gb, goff, rfl, _, hLC⟩ := hLC (by omega)
          have cl : w7.cell? ⟨gb, goff + c, none⟩ = some (.int .i64 (((xdn 0 m).getD c 0 : Nat) : Int)) := hLC c (by omega)
          rw [List.getD_eq_getElem?_getD, xdn_get 0 m c (by omega), Option.getD_some, show 2 * (m - c) - 1 = 2 * q + 1 by omega, show ((2 * q + 1 : Nat) : Int) = 2 * (q : Int) + 1 by omega] at cl
          have hbl : 0 ≤ (c : Int) ∧ (c : Int) < (m : Int) := by omega
          have g3 : decide ((q : Int) = (m : Int) - 1 - (c : Int)) = true := by simp; omega
          have g4 : ((q : Int) == (m : Int) - 1 - (c : Int)) = true := by simp; omega
          have g5 : ((q : Int) != (m : Int) - 1 - (c : Int)) = false := by simp; omega
          obtain ⟨o6, h6, b6, _⟩ := HX7.out.storeOf
          have HCUT := Lib.hid (show Calls Tryd.prog 19 #[.pointer (some ⟨b, 0, none⟩), .int .i64 (2 * (q : Int) + 1)] w7 fun e w' => e = .returned (.tuple #[.int .i64 (q : Int), .int .i64 0]) ∧ ∃ A9, ApSt m q m A9 ∧ Has [] w w' ((Part.store b A9).sep ((Part.nums (.slice (some ⟨gb, goff, none⟩) m lc) (xdn 0 m)).sep (.nums wv (ydn m)))) from by
            have h := cut_at h6 (2 * q) (xh 0 q) (HAP7.out.xn q (by omega) (by omega)) (by rw [HAP7.out.nV]; omega)
            rw [HAP7.out.xchain q _ (by omega) (by unfold xh; split <;> omega), xdn_len, Nat.sub_zero, show (((2 * q : Nat) : Int) + 1) = 2 * (q : Int) + 1 by omega] at h
            refine h.mono ?_
            rintro e w' ⟨rfl, st, h'⟩
            exact ⟨rfl, _, HAP7.out.cut (by omega) st, b6 _ _ h'⟩)
          have HQ := Lib.hid hq
          clear h6 b6 hLC hq hcut
          go_wp2_with fail
          refine HCUT.out.mono ?_
          rintro e w8 ⟨rfl, A9, hap, hX⟩
          have HAP8 := Lib.hid hap
          have HX8 := Lib.hid hX
          clear hap hX HCUT HX7 HAP7 cl
          go_wp2_with fail
          go_loopg [29] (c + 1) (fun k iv wx => ∃ (d : Nat) (A' : ASt), d ≤ c + 1 ∧ k = c + 1 - d ∧ iv = .int .i64 d ∧ ApSt m q (m - d) A' ∧ Has [] w wx ((Part.store b A').sep ((Part.nums (.slice (some ⟨gb, goff, none⟩) m lc) (xdn 0 m)).sep (.nums wv (ydn m)))))
          case atStart => exact ⟨0, _, Nat.zero_le _, rfl, rfl, HAP8.out, HX8.out⟩
          case round =>
            clear HX8 HAP8
            obtain ⟨d, A9, hd9, hk9, rfl, hap9, hX⟩ := hrel
            have HKD := Lib.hid hk9
            have HAP9 := Lib.hid hap9
            have HXD := Lib.hid hX
            clear hk9 hX hap9
            by_cases hdc : d < c + 1
            · have q1 : decide ((d : Int) ≤ (c : Int)) = true := by simp; omega
              have q1' : decide (d ≤ c) = true := by simp; omega
              obtain ⟨o9, h9, b9, _⟩ := HXD.out.storeOf
              have HDR := Lib.hid (show Calls Tryd.prog 20 #[.pointer (some ⟨b, 0, none⟩), .int .i64 1] _ fun e w' => e = .returned (.int .i64 0) ∧ ∃ A', ApSt m q (m - (d + 1)) A' ∧ Has [] w w' ((Part.store b A').sep ((Part.nums (.slice (some ⟨gb, goff, none⟩) m lc) (xdn 0 m)).sep (.nums wv (ydn m)))) from by
                have hmd : m - d = m - (d + 1) + 1 := by have := HQ.out; omega
                have ha := HAP9.out
                rw [hmd] at ha
                have hlo : q ≤ m - (d + 1) := by have := HQ.out; omega
                have hhx := ha.hx
                rw [show xh q (m - (d + 1) + 1) = ((2 * (m - (d + 1)) : Nat) : Int) + 1 by rw [xh, if_pos (by omega)]; omega] at hhx
                have h := drop_at h9 0 (2 * (m - (d + 1))) (xh q (m - (d + 1))) hhx (ha.xn _ hlo (by omega)) (by rw [ha.nV]; omega)
                refine h.mono ?_
                rintro e w' ⟨rfl, st, h'⟩
                exact ⟨rfl, _, ha.drop hlo st, b9 _ _ h'⟩)
              clear h9 b9
              go_wp2_with fail
              refine HDR.out.mono ?_
              rintro e w9 ⟨rfl, A10, hap10, hX⟩
              have HAP10 := Lib.hid hap10
              have HX10 := Lib.hid hX
              clear hap10 hX HDR HXD HAP9
              go_wp2_with fail
              go_roundg (c + 1 - (d + 1))
              case measure => rw [HKD.out]; omega
              case rel => exact ⟨d + 1, _, by omega, rfl, by go_num, HAP10.out, HX10.out⟩
            · have q1 : decide ((d : Int) ≤ (c : Int)) = false := by simp; omega
              have q1' : decide (d ≤ c) = false := by simp; omega
              have ha := HAP9.out
              rw [show m - d = q by have := HQ.out; omega] at ha
              have HAP10 := Lib.hid ha
              obtain ⟨o9, h9, _, c9⟩ := HXD.out.storeOf
              have HCR := Lib.hid (show Calls Tryd.prog 18 #[.pointer (some ⟨b, 0, none⟩), .int .i64 1] _ fun e w' => ∃ lv st, e = .returned lv ∧ Has [] w w' ((Part.store b (A9.at st)).sep ((Part.nums lv []).sep ((Part.nums (.slice (some ⟨gb, goff, none⟩) m lc) (xdn 0 m)).sep (.nums wv (ydn m))))) from by
                have h := Chain_at h9 0 (xh q q) HAP10.out.hx (by rw [HAP10.out.nV]; omega)
                rw [HAP10.out.xchain q _ (Nat.le_refl _) (by omega), show xdn q q = [] from List.eq_nil_of_length_eq_zero (by rw [xdn_len]; omega)] at h
                refine h.mono ?_
                rintro e w' ⟨lv, st, rfl, h'⟩
                exact ⟨lv, st, rfl, c9 _ _ _ h'⟩)
              clear h9 c9 ha HAP9 HXD
              go_wp2_with fail
              refine HCR.out.mono ?_
              rintro e w9 ⟨rv, st9, rfl, hX⟩
              obtain ⟨rp, rc, hrv, _⟩ := hX.numsOf
              rw [List.length_nil] at hrv
              subst hrv
              have HX8 := Lib.hid (hX.weaken (Part.Imp.sep (Part.Imp.refl _) (Part.Imp.snd _ _)))
              have HAP8 := Lib.hid (HAP10.out.at st9)
              generalize A9.at st9 = A8 at *
              obtain ⟨lv, hlv⟩ : ∃ lv, lv = Value.slice (some ⟨gb, goff, none⟩) m lc := ⟨_, rfl⟩
              rw [← hlv] at HX8
              clear hX HCR HAP10 hlv
              obtain ⟨o9, h9, _, c9⟩ := HX8.out.storeOf
              have HCH3 := Lib.hid (show Calls Tryd.prog 18 #[.pointer (some ⟨b, 0, none⟩), .int .i64 2] _ fun e w' => ∃ nv st, e = .returned nv ∧ Has [] w w' ((Part.store b (A8.at st)).sep ((Part.nums nv (ydn m)).sep ((Part.nums lv (xdn 0 m)).sep (.nums wv (ydn m))))) from by
                have h := Chain_at h9 1 (2 * (m : Int)) HAP8.out.hy (by rw [HAP8.out.nV]; omega)
                rw [HAP8.out.ychain m _ (Nat.le_refl _) (by omega)] at h
                refine h.mono ?_
                rintro e w' ⟨nv, st, rfl, h'⟩
                exact ⟨nv, st, rfl, c9 _ _ _ h'⟩)
              clear h9 c9
              go_wp2_with fail
              refine HCH3.out.mono ?_
              rintro e w10 ⟨nv, st10, rfl, hX⟩
              obtain ⟨np, nc, rfl⟩ : ∃ np nc, nv = .slice np m nc := by
                obtain ⟨p, c, e, _⟩ := hX.numsOf
                exact ⟨p, c, by rw [e, ydn_len]⟩
              have HX10 := Lib.hid hX
              have HAP10 := Lib.hid (HAP8.out.at st10)
              clear hX HCH3 HX8 HAP8
              go_wp2_with fail
              go_loopg [32] m (fun k iv wx => ∃ (d : Nat) (A' : ASt), d ≤ m ∧ k = m - d ∧ iv = .int .i64 d ∧ ApSt m q q A' ∧ Has [] w wx ((Part.store b A').sep ((Part.nums (.slice np m nc) (ydn m)).sep ((Part.nums lv (xdn 0 m)).sep (.nums wv (ydn m))))))
              case atStart => exact ⟨0, _, Nat.zero_le _, rfl, rfl, HAP10.out, HX10.out⟩
              case round =>
                clear HX10 HAP10
                obtain ⟨d, A9, hd9, hk9, rfl, hap9, hX⟩ := hrel
                have HKD := Lib.hid hk9
                have HAP9 := Lib.hid hap9
                have HXD := Lib.hid hX
                clear hk9 hX hap9
                by_cases hdm : d < m
                · have q1 : decide ((d : Int) < (m : Int)) = true := by simp; omega
                  have q1' : decide (d < m) = true := by simp; omega
                  have hbd : 0 ≤ (d : Int) ∧ (d : Int) < (m : Int) := by omega
                  obtain ⟨_, _, he, hcc⟩ := HXD.out.numsOf
                  obtain ⟨gb, goff, hgp, _, hcd⟩ := hcc (by rw [ydn_len]; omega)
                  rw [ydn_len] at hcd he
                  obtain ⟨rfl, rfl⟩ : np = _ ∧ nc = _ := by simpa using he
                  have cd : _ = some (Value.int .i64 (((ydn m).getD d 0 : Nat) : Int)) := hcd d hdm
                  rw [List.getD_eq_getElem?_getD, ydn_get m d hdm, Option.getD_some] at cd
                  subst hgp
                  obtain ⟨r, hmr⟩ : ∃ r, m = d + r + 1 := ⟨m - d - 1, by omega⟩
                  rw [show m - d = r + 1 by omega, show ((2 * (r + 1) : Nat) : Int) = 2 * (r : Int) + 2 by omega] at cd
                  obtain ⟨o9, h9, b9, _⟩ := HXD.out.storeOf
                  have HEN := Lib.hid (show Calls Tryd.prog 15 #[.pointer (some ⟨b, 0, none⟩), .int .i64 (2 * (r : Int) + 2)] _ fun e w' => e = .returned (.tuple #[.int .u64 1099511627776, .int .i64 0]) ∧ Has [] w w' ((Part.store b A9.step).sep _) from by
                    have h := end_at h9 (2 * r + 1) 1099511627776 (HAP9.out.ye r (by omega))
                    rw [show (((2 * r + 1 : Nat) : Int) + 1) = 2 * (r : Int) + 2 by omega] at h
                    refine h.mono ?_
                    rintro e w' ⟨rfl, h'⟩
                    exact ⟨rfl, b9 _ _ h'⟩)
                  clear h9 b9 hcc hcd he hmr
                  go_wp2_with fail
                  refine HEN.out.mono ?_
                  rintro e w11 ⟨rfl, hX⟩
                  have HX11 := Lib.hid hX
                  clear hX HEN HXD
                  go_wp2_with fail
                  go_roundg (m - (d + 1))
                  case measure => rw [HKD.out]; omega
                  case rel => exact ⟨d + 1, _, by omega, rfl, by go_num, HAP9.out.at _, HX11.out⟩
                · have q1 : decide ((d : Int) < (m : Int)) = false := by simp; omega
                  have q1' : decide (d < m) = false := by simp; omega
                  have r1 := HXD.out.numsOf
                  obtain ⟨_, h11⟩ := HXD.out.skip
                  obtain ⟨_, h12⟩ := h11.skip
                  have r2 := h12.numsEnd
                  rw [ydn_len] at r1 r2
                  have HIN := Lib.hid (ints_same _ _ _ m _ r2 r1 (by simp only [maxLen]; omega))
                  have HKK9 := Lib.hid HXD.out.keeps
                  clear r1 r2 h11 h12
                  go_wp2_with fail
                  refine HIN.out.mono ?_
                  rintro e w12 ⟨rfl, qq, rfl⟩
                  go_wp2_with fail
                  go_ret
                  exact ⟨rfl, HKK9.out.drewN _⟩
        · have hg : (decide (cut ≥ 0) = true ∧ decide (cut < (m : Int)) = false) ∨ decide (cut ≥ 0) = false := by
            by_cases h1 : 0 ≤ cut
            · left; simp; omega
            · right; simp; omega
          obtain ⟨lv, hlv⟩ : ∃ lv, lv = Value.slice lp m lc := ⟨_, rfl⟩
          have HX8 := HX7
          have HAP8 := HAP7
          rw [← hlv] at HX8
          clear HX7 HAP7 hLC hcut
          rcases hg with ⟨g1, g2⟩ | g1
          all_goals (
            clear hlv
            obtain ⟨o9, h9, _, c9⟩ := HX8.out.storeOf
            have HCH3 := Lib.hid (show Calls Tryd.prog 18 #[.pointer (some ⟨b, 0, none⟩), .int .i64 2] _ fun e w' => ∃ nv st, e = .returned nv ∧ Has [] w w' ((Part.store b (A8.at st)).sep ((Part.nums nv (ydn m)).sep ((Part.nums lv (xdn 0 m)).sep (.nums wv (ydn m))))) from by
              have h := Chain_at h9 1 (2 * (m : Int)) HAP8.out.hy (by rw [HAP8.out.nV]; omega)
              rw [HAP8.out.ychain m _ (Nat.le_refl _) (by omega)] at h
              refine h.mono ?_
              rintro e w' ⟨nv, st, rfl, h'⟩
              exact ⟨nv, st, rfl, c9 _ _ _ h'⟩)
            clear h9 c9
            go_wp2_with fail
            refine HCH3.out.mono ?_
            rintro e w10 ⟨nv, st10, rfl, hX⟩
            obtain ⟨np, nc, rfl⟩ : ∃ np nc, nv = .slice np m nc := by
              obtain ⟨p, c, e, _⟩ := hX.numsOf
              exact ⟨p, c, by rw [e, ydn_len]⟩
            have HX10 := Lib.hid hX
            have HAP10 := Lib.hid (HAP8.out.at st10)
            clear hX HCH3 HX8 HAP8
            go_wp2_with fail
            go_loopg [32] m (fun k iv wx => ∃ (d : Nat) (A' : ASt), d ≤ m ∧ k = m - d ∧ iv = .int .i64 d ∧ ApSt m 0 m A' ∧ Has [] w wx ((Part.store b A').sep ((Part.nums (.slice np m nc) (ydn m)).sep ((Part.nums lv (xdn 0 m)).sep (.nums wv (ydn m))))))
            case atStart => exact ⟨0, _, Nat.zero_le _, rfl, rfl, HAP10.out, HX10.out⟩
            case round =>
              clear HX10 HAP10
              obtain ⟨d, A9, hd9, hk9, rfl, hap9, hX⟩ := hrel
              have HKD := Lib.hid hk9
              have HAP9 := Lib.hid hap9
              have HXD := Lib.hid hX
              clear hk9 hX hap9
              by_cases hdm : d < m
              · have q1 : decide ((d : Int) < (m : Int)) = true := by simp; omega
                have q1' : decide (d < m) = true := by simp; omega
                have hbd : 0 ≤ (d : Int) ∧ (d : Int) < (m : Int) := by omega
                obtain ⟨_, _, he, hcc⟩ := HXD.out.numsOf
                obtain ⟨gb, goff, hgp, _, hcd⟩ := hcc (by rw [ydn_len]; omega)
                rw [ydn_len] at hcd he
                obtain ⟨rfl, rfl⟩ : np = _ ∧ nc = _ := by simpa using he
                have cd : _ = some (Value.int .i64 (((ydn m).getD d 0 : Nat) : Int)) := hcd d hdm
                rw [List.getD_eq_getElem?_getD, ydn_get m d hdm, Option.getD_some] at cd
                subst hgp
                obtain ⟨r, hmr⟩ : ∃ r, m = d + r + 1 := ⟨m - d - 1, by omega⟩
                rw [show m - d = r + 1 by omega, show ((2 * (r + 1) : Nat) : Int) = 2 * (r : Int) + 2 by omega] at cd
                obtain ⟨o9, h9, b9, _⟩ := HXD.out.storeOf
                have HEN := Lib.hid (show Calls Tryd.prog 15 #[.pointer (some ⟨b, 0, none⟩), .int .i64 (2 * (r : Int) + 2)] _ fun e w' => e = .returned (.tuple #[.int .u64 1099511627776, .int .i64 0]) ∧ Has [] w w' ((Part.store b A9.step).sep _) from by
                  have h := end_at h9 (2 * r + 1) 1099511627776 (HAP9.out.ye r (by omega))
                  rw [show (((2 * r + 1 : Nat) : Int) + 1) = 2 * (r : Int) + 2 by omega] at h
                  refine h.mono ?_
                  rintro e w' ⟨rfl, h'⟩
                  exact ⟨rfl, b9 _ _ h'⟩)
                clear h9 b9 hcc hcd he hmr
                go_wp2_with fail
                refine HEN.out.mono ?_
                rintro e w11 ⟨rfl, hX⟩
                have HX11 := Lib.hid hX
                clear hX HEN HXD
                go_wp2_with fail
                go_roundg (m - (d + 1))
                case measure => rw [HKD.out]; omega
                case rel => exact ⟨d + 1, _, by omega, rfl, by go_num, HAP9.out.at _, HX11.out⟩
              · have q1 : decide ((d : Int) < (m : Int)) = false := by simp; omega
                have q1' : decide (d < m) = false := by simp; omega
                have r1 := HXD.out.numsOf
                obtain ⟨_, h11⟩ := HXD.out.skip
                obtain ⟨_, h12⟩ := h11.skip
                have r2 := h12.numsEnd
                rw [ydn_len] at r1 r2
                have HIN := Lib.hid (ints_same _ _ _ m _ r2 r1 (by simp only [maxLen]; omega))
                have HKK9 := Lib.hid HXD.out.keeps
                clear r1 r2 h11 h12
                go_wp2_with fail
                refine HIN.out.mono ?_
                rintro e w12 ⟨rfl, qq, rfl⟩
                go_wp2_with fail
                go_ret
                exact ⟨rfl, HKK9.out.drewN _⟩))
end Go.Proofs.YtlaffmdflleeeaaDoor
