/- The walk of SchedFair: true at all numbers and picks, and nothing that was there has changed. -/
import Derived.Test.YtfipoadgfebibaaDoorLawTurns
import Derived.Test.YtfipoadgfebibaaDoorPlainFair
namespace Go.Proofs.YtfipoadgfebibaaDoor
open Go Go.RowKit
set_option linter.unusedVariables false

set_option maxHeartbeats 16000000 in
set_option maxRecDepth 100000 in
theorem fair_no (w : World) (hT : TabAt w) (a b : Int) (m : Nat) (q : Option Addr) (qcap : Nat) (hm : m ≤ 140737488351232) (hno : ¬ turnsOk a b m) :
    Calls Tryd.prog 7 #[.int .i64 a, .int .i64 b, .slice q m qcap] w fun e w' => e = .returned (.bool true) ∧ Kept [] w w' := by
  have HT := Lib.hid hT
  have HOK := Lib.hid hno
  clear hT hno
  go_enter Tryd.func7, Tryd.ntmps7
  go_wp2_with fail
  refine (shown_calls w HT.out).mono ?_
  rintro e w1 ⟨rfl, hk⟩
  have HK := Lib.hid hk
  clear hk
  go_wp2_with fail
  refine (pturns_no w1 a b m q qcap hm HOK.out).mono ?_
  rintro e w2 ⟨rfl, rfl⟩
  go_wp2_with fail
  go_ret
  exact ⟨rfl, HK.out⟩

set_option maxHeartbeats 16000000 in
set_option maxRecDepth 100000 in
theorem fair_yes (w : World) (hTb : TabAt w) (n W T : Nat) (m : Nat) (z : Nat → Int) (q : Option Addr) (qcap : Nat) (hp : PicksAt w (.slice q m qcap) m z) (hn : 1 ≤ n) (hn16 : n ≤ 16) (hW : W = n + T) (hT : n ≤ T) (hW1 : W ≤ 1000) (hm6 : m ≤ 65536) :
    Calls Tryd.prog 7 #[.int .i64 n, .int .i64 W, .slice q m qcap] w fun e w' => e = .returned (.bool true) ∧ Kept [] w w' := by
  obtain ⟨q', qcap', he, hm, hQ⟩ := id hp
  obtain ⟨rfl, rfl⟩ : q = q' ∧ qcap = qcap' := by simpa using he
  clear he
  have HP := Lib.hid hp
  have HQ := Lib.hid hQ
  have HTb := Lib.hid hTb
  have hfair := turns_fair (n := n) (W := W) (T := T) hn hW hT z m
  have hlen := turnsS_len hn hT z m
  have hl9 : m * (n + 1) ≤ 65536 * 17 := Nat.mul_le_mul (by omega) (by omega)
  have HW := Lib.hid hW
  have hmk := make_int n (by omega)
  clear hp hTb hW hQ
  go_enter Tryd.func7, Tryd.ntmps7
  go_wp2_with fail
  refine (shown_calls w HTb.out).mono ?_
  rintro e w1 ⟨rfl, hk⟩
  have HK := Lib.hid hk
  clear hk
  go_wp2_with fail
  refine (pturns_yes w1 n W T m z q qcap (HP.out.kept HK.out (by simp)) hn hn16 HW.out hT hW1 hm6).mono ?_
  rintro e w2 ⟨lv, rfl, hA⟩
  have hk2 := HK.out.tr hA.keeps
  have HK2 := Lib.hid hk2
  have HRL := Lib.hid hA.intsAt
  obtain ⟨lp, lc, rfl⟩ := ap_ints hA
  obtain ⟨⟨_, hok, _, _⟩, hsub⟩ := hfair
  generalize (turnsS n T z m).out = l at *
  have HOKAY := Lib.hid hok
  have HSUB := Lib.hid (show (restP n m z 0).Sublist (l.drop 0) by rw [List.drop_zero]; exact hsub)
  have HMN := Lib.hid (Has.madeNats w2 n (by omega))
  clear hk2 hA hok hsub
  go_wp2_with fail
  clear hmk
  generalize w2.heap.size = g at *
  go_loopg [11] l.length (fun k iv wr => ∃ i : Nat, i ≤ l.length ∧ k = l.length - i ∧ iv = .int .i64 i ∧ Has [] w2 wr (.nats (.slice (some ⟨g, 0, none⟩) n n) n (wOf (l.take i))))
  case atStart => exact ⟨0, Nat.zero_le _, rfl, rfl, HMN.out⟩
  case round =>
    clear HMN
    obtain ⟨i, hi, hk, rfl, hX⟩ := hrel
    have HKK := Lib.hid hk
    have HX := Lib.hid hX
    clear hk hX
    by_cases hlt : i < l.length
    · have hd : decide ((i : Int) < (l.length : Int)) = true := by simp; omega
      have hd' : decide (i < l.length) = true := by simp; omega
      obtain ⟨rp, rc, hre, hrc⟩ := HRL.out
      obtain ⟨rb, ro, rfl, _, hrc⟩ := hrc (by omega)
      obtain ⟨rfl, rfl⟩ : lp = some ⟨rb, ro, none⟩ ∧ lc = rc := by simpa using hre
      have hlc : w2.cell? ⟨rb, ro + i, none⟩ = some (.int .i64 (l.getD i 0)) := hrc i hlt
      have HLC := Lib.hid hlc
      clear hlc
      have hmem : l.getD i 0 ∈ l := by rw [List.getD_eq_getElem?_getD, List.getElem?_eq_getElem hlt]; exact List.getElem_mem hlt
      obtain ⟨hx0, hxn⟩ := HOKAY.out.who _ hmem
      have HWT := Lib.hid (HOKAY.out.wait i hlt)
      have hsnoc : l.take (i + 1) = l.take i ++ [l.getD i 0] := by
        rw [List.take_add_one, List.getD_eq_getElem?_getD, List.getElem?_eq_getElem hlt]; rfl
      have HSN := Lib.hid hsnoc
      have hb9 : ∀ k, wOf (l.take i) k ≤ 100000000 := fun k => by have := wOf_le l i k hi; omega
      have HB9 := Lib.hid hb9
      clear hrc hre hmem hsnoc hb9
      generalize hx : l.getD i 0 = x at *
      obtain ⟨p, rfl⟩ := Int.eq_ofNat_of_zero_le hx0
      have hpn : p < n := by omega
      have hnext : ∀ k, k < n → (if k = p then 0 else wOf (l.take i) k + 1) = wOf (l.take (i + 1)) k := fun k hk => by
        rw [HSN.out, wOf_snoc]
        show (if k = p then 0 else wOf (l.take i) k + 1) = if (k : Int) = (p : Int) then 0 else wOf (l.take i) k + 1
        by_cases e : k = p
        · rw [if_pos e, if_pos (by omega)]
        · rw [if_neg e, if_neg (by omega)]
      have HNX := Lib.hid hnext
      have f0 : decide ((p : Int) < 0) = false := by simp
      have f1 : decide ((p : Int) ≥ (n : Int)) = false := by simp; omega
      have f1' : decide (n ≤ p) = false := by simp; omega
      have hbp : 0 ≤ (p : Int) ∧ (p : Int) < (n : Int) := by omega
      have c0 := HX.out.keeps.cell HLC.out (by simp)
      generalize wOf (l.take i) = f at *
      clear hx hx0 hxn hnext
      go_wp2_with fail
      go_loopg [12] n (fun k jv wx => ∃ j : Nat, j ≤ n ∧ k = n - j ∧ jv = .int .i64 j ∧ Has [] w2 wx (.nats (.slice (some ⟨g, 0, none⟩) n n) n (fun k => if k < j then f k + 1 else f k)))
      case atStart => exact ⟨0, Nat.zero_le _, rfl, rfl, by simpa using HX.out⟩
      case round =>
        clear HX c0
        obtain ⟨j, hj, hk2, rfl, hX⟩ := hrel
        have HKJ := Lib.hid hk2
        have HX := Lib.hid hX
        have c0 := HX.out.keeps.cell HLC.out (by simp)
        clear hk2 hX
        by_cases hjn : j < n
        · have g0 : decide ((j : Int) < (n : Int)) = true := by simp; omega
          have g0' : decide (j < n) = true := by simp; omega
          have hbj : 0 ≤ (j : Int) ∧ (j : Int) < (n : Int) := by omega
          obtain ⟨g', c', he, x0, z0, hput⟩ := nats_open HX.out hjn
          obtain ⟨rfl, rfl⟩ : g = g' ∧ n = c' := by simpa using he
          rw [if_neg (by omega)] at x0
          have hfj := HB9.out j
          have hS := hput (f j + 1)
          have hcast : ((f j + 1 : Nat) : Int) = (f j : Int) + 1 := by simp
          rw [hcast] at hS
          have e : (fun j' => if j' = j then f j + 1 else if j' < j then f j' + 1 else f j') = fun k => if k < j + 1 then f k + 1 else f k := funext fun k => by
            by_cases e1 : k = j
            · subst e1; simp
            · by_cases e2 : k < j
              · rw [if_neg e1, if_pos e2, if_pos (by omega)]
              · rw [if_neg e1, if_neg e2, if_neg (by omega)]
          rw [e] at hS
          have hS' := hS
          obtain ⟨_, _, he2, y0, _, _⟩ := nats_open hS' hjn
          rw [if_pos (by omega), hcast] at y0
          obtain ⟨rfl, rfl⟩ : g = _ ∧ n = _ := by simpa using he2
          have d0 := hS'.keeps.cell HLC.out (by simp)
          have HS := Lib.hid hS
          clear he hput hS hS' e he2 hcast
          by_cases hjp : j = p
          · subst hjp
            go_wp2_with fail
            go_roundg (n - (j + 1))
            case measure => rw [HKJ.out]; omega
            case rel => exact ⟨j + 1, by omega, rfl, by go_num, HS.out⟩
          · have hw := HWT.out j hjn (by omega)
            have g1 : decide (j = p) = false := by simp; exact hjp
            have g1' : decide ((j : Int) = (p : Int)) = false := by simp; omega
            have g2 : decide (((f j : Nat) : Int) + 1 ≥ (W : Int)) = false := by simp; omega
            go_wp2_with fail
            go_roundg (n - (j + 1))
            case measure => rw [HKJ.out]; omega
            case rel => exact ⟨j + 1, by omega, rfl, by go_num, HS.out⟩
        · have g0 : decide ((j : Int) < (n : Int)) = false := by simp; omega
          have g0' : decide (j < n) = false := by simp; omega
          obtain rfl : j = n := by omega
          obtain ⟨g', c', he, x0, z0, hput⟩ := nats_open HX.out hpn
          obtain ⟨rfl, rfl⟩ : g = g' ∧ j = c' := by simpa using he
          have hS := hput 0
          rw [nats_congr (g := wOf (l.take (i + 1))) fun k hk => by rw [← HNX.out k hk]; simp only [if_pos hk]] at hS
          have HS := Lib.hid hS
          clear he hput hS
          go_wp2_with fail
          go_roundg (l.length - (i + 1))
          case measure => rw [HKK.out]; omega
          case rel => exact ⟨i + 1, by omega, rfl, by go_num, HS.out⟩
    · have hd : decide ((i : Int) < (l.length : Int)) = false := by simp; omega
      have hd' : decide (i < l.length) = false := by simp; omega
      have HKx := Lib.hid (HK2.out.tr HX.out.keeps)
      have HRY := Lib.hid (HRL.out.kept HX.out.keeps (by simp))
      clear HX
      rename World => wy
      go_wp2_with fail
      go_loopg [13, 14] m (fun k av iv wx => ∃ i a : Nat, i ≤ m ∧ a ≤ l.length ∧ k = m - i ∧ av = .int .i64 a ∧ iv = .int .i64 i ∧ (restP n m z i).Sublist (l.drop a) ∧ ∃ dq, wx = wy.drewN dq)
      case atStart => exact ⟨0, 0, Nat.zero_le _, Nat.zero_le _, rfl, rfl, rfl, HSUB.out, 0, rfl⟩
      case round =>
        clear HSUB
        obtain ⟨i2, a, hi2, ha, hk, rfl, rfl, hsub, dq, rfl⟩ := hrel
        have HKI := Lib.hid hk
        have HSUB := Lib.hid hsub
        clear hk hsub
        by_cases hlt2 : i2 < m
        · have f0 : decide ((i2 : Int) < (m : Int)) = true := by simp; omega
          have f0' : decide (i2 < m) = true := by simp; omega
          obtain ⟨pb, poff, rfl, _, hqc⟩ := HQ.out (by omega)
          have c0 := HKx.out.cell (hqc i2 hlt2) (by simp)
          clear hqc
          by_cases hx0 : z i2 < 0
          · have e0 : decide (z i2 < 0) = true := by simpa using hx0
            go_wp2_with fail
            go_roundg (m - (i2 + 1))
            case measure => rw [HKI.out]; omega
            case rel => exact ⟨i2 + 1, a, by omega, ha, rfl, rfl, by go_num, by rw [← restP_skip hlt2 (by omega)]; exact HSUB.out, dq, rfl⟩
          have e0 : decide (z i2 < 0) = false := by simpa using hx0
          by_cases hxn : (n : Int) ≤ z i2
          · have e1 : decide (z i2 ≥ (n : Int)) = true := by simpa using hxn
            go_wp2_with fail
            go_roundg (m - (i2 + 1))
            case measure => rw [HKI.out]; omega
            case rel => exact ⟨i2 + 1, a, by omega, ha, rfl, rfl, by go_num, by rw [← restP_skip hlt2 (by omega)]; exact HSUB.out, dq, rfl⟩
          have e1 : decide (z i2 ≥ (n : Int)) = false := by simp; omega
          have hs1 := HSUB.out
          rw [restP_take hlt2 (by omega)] at hs1
          have HS1 := Lib.hid hs1
          clear hs1 HSUB
          obtain ⟨rp, rc, hre, hrc⟩ := HRY.out
          have HRC := Lib.hid hrc
          obtain ⟨rfl, rfl⟩ : lp = rp ∧ lc = rc := by simpa using hre
          clear hre hrc
          go_wp2_with fail
          go_loopg [13] (l.length - a) (fun k av wz => ∃ b : Nat, b ≤ l.length ∧ k = l.length - b ∧ av = .int .i64 b ∧ (z i2 :: restP n m z (i2 + 1)).Sublist (l.drop b) ∧ ∃ dq, wz = wy.drewN dq)
          case atStart => exact ⟨a, ha, rfl, rfl, HS1.out, dq, rfl⟩
          case round =>
            clear HS1
            obtain ⟨b, hb, hk2, rfl, hsub, dq2, rfl⟩ := hrel
            have HKB := Lib.hid hk2
            obtain ⟨hbl, hs1, hs2⟩ := sub_pass hsub
            obtain ⟨rb, ro, rfl, _, hrc⟩ := HRC.out (by omega)
            have c1 : wy.cell? ⟨rb, ro + b, none⟩ = some (.int .i64 (l.getD b 0)) := hrc b hbl
            have hbb : 0 ≤ (b : Int) ∧ (b : Int) < (l.length : Int) := by omega
            have g0 : decide ((b : Int) < (l.length : Int)) = true := by simp; omega
            have g0' : decide (b < l.length) = true := by simp; omega
            clear hk2 hsub hrc
            generalize l.getD b 0 = x at *
            by_cases hxz : x = z i2
            · have HS2 := Lib.hid (hs2 hxz)
              clear hs1 hs2
              subst hxz
              have g1 : decide (b = l.length) = false := by simp; omega
              have g1' : decide ((b : Int) = (l.length : Int)) = false := by simp; omega
              go_wp2_with fail
              go_quiet (fail)
              go_wp2_with fail
              go_roundg (m - (i2 + 1))
              case measure => rw [HKI.out]; omega
              case rel => exact ⟨i2 + 1, b + 1, by omega, by omega, rfl, by go_num, by go_num, HS2.out, _, rfl⟩
            · have HS2 := Lib.hid (hs1 hxz)
              clear hs1 hs2
              have g1 : decide (x = z i2) = false := by simpa using hxz
              have g1' : (x == z i2) = false := by simpa using hxz
              go_wp2_with fail
              go_quiet (fail)
              go_wp2_with fail
              go_roundg (l.length - (b + 1))
              case measure => rw [HKB.out]; omega
              case rel => exact ⟨b + 1, by omega, rfl, by go_num, HS2.out, _, rfl⟩
        · have f0 : decide ((i2 : Int) < (m : Int)) = false := by simp; omega
          have f0' : decide (i2 < m) = false := by simp; omega
          go_wp2_with fail
          go_ret
          exact ⟨rfl, HKx.out.drewN _⟩
end Go.Proofs.YtfipoadgfebibaaDoor
