/- The walks of Turns, the program's and the reference's. -/
import Derived.Test.YtfipoadgfebibaaDoorTurnsOps
namespace Go.Proofs.YtfipoadgfebibaaDoor
open Go Go.RowKit
set_option linter.unusedVariables false

/-- May picks be made fair? -/
def turnsOk (workers window : Int) (m : Nat) : Prop := 1 ≤ workers ∧ workers ≤ 16 ∧ 2 * workers ≤ window ∧ window ≤ 1000 ∧ m ≤ 65536

theorem make_int (m : Nat) (hm : m ≤ 5000) (w : World) : (Instr.makeSlice 23 (.int .i64 (m : Int)) (.int .i64 (m : Int))).run Tryd.prog w = .ok (.slice (some ⟨w.heap.size, 0, none⟩) m m) (w.alloc (.cells (madeCells #[.int .i64 0] m) 3)) :=
  run_make_row' (P := Tryd.prog) 23 3 (.int .i64 0) 8 Tryd.underlying23 info_int1 rfl .i64 .i64 m (by omega) (by omega) w

theorem Has.madeNats (w : World) (m : Nat) (hm : m ≤ 5000) : Has [] w (w.alloc (.cells (madeCells #[.int .i64 0] m) 3)) (.nats (.slice (some ⟨w.heap.size, 0, none⟩) m m) m (fun _ => 0)) :=
  Has.madeRow 3 (.int .i64 0) m (by simp only [maxLen]; omega) (fun _ => .int .i64 ((0 : Nat) : Int)) fun _ _ => rfl

set_option maxHeartbeats 4000000 in
set_option maxRecDepth 100000 in
theorem rturns_no (w : World) (workers window : Int) (m : Nat) (q : Option Addr) (qcap : Nat) (hm : m ≤ 140737488351232) (hno : ¬ turnsOk workers window m) :
    Calls Tryd.prog 16 #[.int .i64 workers, .int .i64 window, .slice q m qcap] w fun e w' => e = .returned (.tuple #[.slice none 0 0, .int .i64 70]) ∧ w' = w := by
  have HNO := Lib.hid hno
  clear hno
  go_enter Tryd.func16, Tryd.ntmps16
  by_cases h1 : workers < 1
  · have d1 : decide (workers < 1) = true := by simpa using h1
    go_wp2_with fail
    go_ret2
    exact ⟨rfl, rfl⟩
  have d1 : decide (workers < 1) = false := by simpa using h1
  by_cases h2 : 16 < workers
  · have d2 : decide (workers > 16) = true := by simpa using h2
    go_wp2_with fail
    go_ret2
    exact ⟨rfl, rfl⟩
  have d2 : decide (workers > 16) = false := by simp; omega
  by_cases h3 : window < 2 * workers
  · have d3 : decide (window < 2 * workers) = true := by simpa using h3
    go_wp2_with fail
    go_ret2
    exact ⟨rfl, rfl⟩
  have d3 : decide (window < 2 * workers) = false := by simpa using h3
  by_cases h4 : 1000 < window
  · have d4 : decide (window > 1000) = true := by simpa using h4
    go_wp2_with fail
    go_ret2
    exact ⟨rfl, rfl⟩
  have d4 : decide (window > 1000) = false := by simp; omega
  by_cases h5 : 65536 < m
  · have d5 : decide ((m : Int) > 65536) = true := by simp; omega
    have d5' : decide (m > 65536) = true := by simp; omega
    go_wp2_with fail
    go_ret2
    exact ⟨rfl, rfl⟩
  exact absurd ⟨by omega, by omega, by omega, by omega, by omega⟩ HNO.out

set_option maxHeartbeats 4000000 in
set_option maxRecDepth 100000 in
theorem pturns_no (w : World) (workers window : Int) (m : Nat) (q : Option Addr) (qcap : Nat) (hm : m ≤ 140737488351232) (hno : ¬ turnsOk workers window m) :
    Calls Tryd.prog 15 #[.int .i64 workers, .int .i64 window, .slice q m qcap] w fun e w' => e = .returned (.tuple #[.slice none 0 0, .int .i64 70]) ∧ w' = w := by
  have HNO := Lib.hid hno
  clear hno
  go_enter Tryd.func15, Tryd.ntmps15
  by_cases h1 : workers < 1
  · have d1 : decide (workers < 1) = true := by simpa using h1
    go_wp2_with fail
    go_ret2
    exact ⟨rfl, rfl⟩
  have d1 : decide (workers < 1) = false := by simpa using h1
  by_cases h2 : 16 < workers
  · have d2 : decide (workers > 16) = true := by simpa using h2
    go_wp2_with fail
    go_ret2
    exact ⟨rfl, rfl⟩
  have d2 : decide (workers > 16) = false := by simp; omega
  by_cases h3 : window < 2 * workers
  · have d3 : decide (window < 2 * workers) = true := by simpa using h3
    go_wp2_with fail
    go_ret2
    exact ⟨rfl, rfl⟩
  have d3 : decide (window < 2 * workers) = false := by simpa using h3
  by_cases h4 : 1000 < window
  · have d4 : decide (window > 1000) = true := by simpa using h4
    go_wp2_with fail
    go_ret2
    exact ⟨rfl, rfl⟩
  have d4 : decide (window > 1000) = false := by simp; omega
  by_cases h5 : 65536 < m
  · have d5 : decide ((m : Int) > 65536) = true := by simp; omega
    have d5' : decide (m > 65536) = true := by simp; omega
    go_wp2_with fail
    go_ret2
    exact ⟨rfl, rfl⟩
  exact absurd ⟨by omega, by omega, by omega, by omega, by omega⟩ HNO.out

theorem pushInts {o : List Nat} {w0 w w5 : World} {A : Part} {ov v' : Value} {out : List Int} {x : Int} (ob : Obj) (h : Has o w0 w (A.sep (.ints ov out))) (happ : Appended (w.alloc ob) w5 3 1 ov v' (out.length + 1) (out.map (Value.int .i64) ++ [.int .i64 x])) :
    Has o w0 w5 (A.sep (.ints v' (out ++ [x]))) := by
  obtain ⟨o1, h1, _, _, b1⟩ := h.right
  exact b1 _ _ (Has.moreInts (l' := [x]) ob h1 happ)

set_option maxHeartbeats 8000000 in
set_option maxRecDepth 100000 in
theorem rturns_yes (w : World) (n W T : Nat) (m : Nat) (z : Nat → Int) (q : Option Addr) (qcap : Nat) (hp : PicksAt w (.slice q m qcap) m z) (hn : 1 ≤ n) (hn16 : n ≤ 16) (hW : W = n + T) (hT : n ≤ T) (hW1 : W ≤ 1000) (hm6 : m ≤ 65536) :
    Calls Tryd.prog 16 #[.int .i64 n, .int .i64 W, .slice q m qcap] w fun e w' => ∃ v, e = .returned (.tuple #[v, .int .i64 0]) ∧ Has [] w w' (.ints v (turnsS n T z m).out) := by
  obtain ⟨q', qcap', he, hm, hQ⟩ := hp
  obtain ⟨rfl, rfl⟩ : q = q' ∧ qcap = qcap' := by simpa using he
  clear he
  have HQ := Lib.hid hQ
  have HW := Lib.hid hW
  have hWT : ∀ x : Nat, ((x : Int) < (W : Int) - (n : Int)) ↔ x < T := fun x => by omega
  clear hQ
  have hmk := make_int n (by omega)
  obtain ⟨i0, hi0, hz0, hz1, hz2⟩ := info_parts info_int1
  have d1 : decide ((n : Int) < 1) = false := by simp; omega
  have d2 : decide ((n : Int) > 16) = false := by simp; omega
  have d3 : decide ((W : Int) < 2 * (n : Int)) = false := by simp; omega
  have d4 : decide ((W : Int) > 1000) = false := by simp; omega
  have d5 : decide ((m : Int) > 65536) = false := by simp; omega
  have HM := Lib.hid (Has.madeNats w n (by omega))
  have HWT := Lib.hid hWT
  clear hW hWT
  go_enter Tryd.func16, Tryd.ntmps16
  go_wp2_with fail
  clear d1 d2 d3 d4 d5
  generalize w.heap.size = g at *
  go_loopg [9, 10] m (fun k ov iv wr => ∃ i : Nat, i ≤ m ∧ k = m - i ∧ iv = .int .i64 i ∧ Has [] w wr ((Part.nats (.slice (some ⟨g, 0, none⟩) n n) n (turnsS n T z i).ws).sep (.ints ov (turnsS n T z i).out)))
  case atStart => exact ⟨0, Nat.zero_le _, rfl, rfl, HM.out.beside (Has.nilInts _)⟩
  case round =>
    clear HM
    obtain ⟨i, hi, hk, rfl, hX⟩ := hrel
    have HKK := Lib.hid hk
    have HX := Lib.hid hX
    clear hk hX
    by_cases hlt : i < m
    · have hd : decide ((i : Int) < (m : Int)) = true := by simp; omega
      have hd' : decide (i < m) = true := by simp; omega
      obtain ⟨pb, poff, rfl, _, hqc⟩ := HQ.out (by omega)
      have c0 := HX.out.keeps.cell (hqc i hlt) (by simp)
      clear hqc
      by_cases hx0 : z i < 0
      · have e0 : decide (z i < 0) = true := by simpa using hx0
        go_wp2_with fail
        go_roundg (m - (i + 1))
        case measure => rw [HKK.out]; omega
        case rel => exact ⟨i + 1, by omega, rfl, by go_num, by rw [pick_skip (by omega)]; exact HX.out⟩
      have e0 : decide (z i < 0) = false := by simpa using hx0
      by_cases hxn : (n : Int) ≤ z i
      · have e1 : decide (z i ≥ (n : Int)) = true := by simpa using hxn
        go_wp2_with fail
        go_roundg (m - (i + 1))
        case measure => rw [HKK.out]; omega
        case rel => exact ⟨i + 1, by omega, rfl, by go_num, by rw [pick_skip (by omega)]; exact HX.out⟩
      have e1 : decide (z i ≥ (n : Int)) = false := by simp; omega
      obtain ⟨p, hzp⟩ := Int.eq_ofNat_of_zero_le (a := z i) (by omega)
      have hpn : p < n := by omega
      have hlen0 := turnsS_len hn hT z i
      have hfit0 := turnsS_fit hn hT z i
      have hstart := FillInv.start n T (turnsS n T z i)
      have HZP := Lib.hid hzp
      rw [hzp] at c0 e0 e1
      have e1' : decide (n ≤ p) = false := by simp; omega
      have hi17 : i * (n + 1) ≤ 65536 * 17 := Nat.mul_le_mul (by omega) (by omega)
      clear hzp hx0 hxn
      generalize hs0 : turnsS n T z i = s0 at *
      have HS0 := Lib.hid hs0
      clear hs0
      go_wp2_with fail
      go_loopg [9] (n + 1) (fun k ov wx => ∃ (t : Nat) (s : TS), FillInv n T s0 t s ∧ s.Fit n ∧ k = n + 1 - t ∧ Has [] w wx ((Part.nats (.slice (some ⟨g, 0, none⟩) n n) n s.ws).sep (.ints ov s.out)))
      case atStart => exact ⟨0, s0, hstart, hfit0, rfl, HX.out⟩
      case round =>
        clear HX hstart hfit0 c0
        obtain ⟨t, s, hfill, hfit, hk2, hX⟩ := hrel
        rename World => wx
        have HKT := Lib.hid hk2
        have hb9 : ∀ k, k < n → s.ws k ≤ 100000000 := fun k hk => by have := hfit k hk; have := hfill.len; have := hfill.le; omega
        have hl9 : s.out.length ≤ 100000000 := by have := hfill.len; have := hfill.le; omega
        have HF := Lib.hid hfill
        have HFIT := Lib.hid hfit
        have HB9 := Lib.hid hb9
        have HX := Lib.hid hX
        obtain ⟨o1, h1, _⟩ := hX.left
        have HR := Lib.hid h1.natsAt
        clear hk2 hX h1 hfill hfit hb9
        go_wp2_with fail
        go_loopg [12, 13] (n - 1) (fun k qv kv wy => ∃ j : Nat, 1 ≤ j ∧ j ≤ n ∧ k = n - j ∧ qv = .int .i64 (bestTo s.ws j : Nat) ∧ kv = .int .i64 j ∧ ∃ dq, wy = wx.drewN dq)
        case atStart => exact ⟨1, Nat.le_refl _, hn, rfl, by rw [bestTo_one]; rfl, rfl, 0, rfl⟩
        case round =>
          obtain ⟨j, hj1, hj, hk2, rfl, rfl, dq, rfl⟩ := hrel
          have HKJ := Lib.hid hk2
          clear hk2
          by_cases hjn : j < n
          · have f0 : decide ((j : Int) < (n : Int)) = true := by simp; omega
            have f0' : decide (j < n) = true := by simp; omega
            have hbl := bestTo_lt s.ws j hj1
            have hbst : bestTo s.ws (j + 1) = if s.ws (bestTo s.ws j) < s.ws j then j else bestTo s.ws j := rfl
            have HBST := Lib.hid hbst
            generalize bestTo s.ws j = b at *
            clear hbst
            obtain ⟨rp, rc, hre, hrc⟩ := HR.out
            obtain ⟨rb, ro, rfl, _, hrc⟩ := hrc (by omega)
            simp only [Value.slice.injEq, Option.some.injEq, Addr.mk.injEq, and_true, true_and] at hre
            obtain ⟨⟨rfl, rfl⟩, rfl⟩ := hre
            have c1 := hrc j hjn
            have c2 := hrc b (by omega)
            simp only [Nat.zero_add] at c1 c2
            have hb1 : 0 ≤ (j : Int) ∧ (j : Int) < (n : Int) := by omega
            have hb2 : 0 ≤ (b : Int) ∧ (b : Int) < (n : Int) := by omega
            clear hrc
            by_cases hgt : s.ws b < s.ws j
            · have f1 : decide (((s.ws j : Nat) : Int) > ((s.ws b : Nat) : Int)) = true := by simp; omega
              have f1' : decide (s.ws j > s.ws b) = true := by simp; omega
              go_wp2_with fail
              go_quiet (fail)
              go_wp2_with fail
              go_roundg (n - (j + 1))
              case measure => rw [HKJ.out]; omega
              case rel => exact ⟨j + 1, by omega, by omega, rfl, by rw [HBST.out, if_pos hgt], by go_num, _, rfl⟩
            · have f1 : decide (((s.ws j : Nat) : Int) > ((s.ws b : Nat) : Int)) = false := by simp; omega
              have f1' : decide (s.ws j > s.ws b) = false := by simp; omega
              go_wp2_with fail
              go_quiet (fail)
              go_wp2_with fail
              go_roundg (n - (j + 1))
              case measure => rw [HKJ.out]; omega
              case rel => exact ⟨j + 1, by omega, by omega, rfl, by rw [HBST.out, if_neg hgt], by go_num, _, rfl⟩
          · have f0 : decide ((j : Int) < (n : Int)) = false := by simp; omega
            have f0' : decide (j < n) = false := by simp; omega
            obtain rfl : j = n := by omega
            have hbl := bestTo_lt s.ws j hn
            have HLT := Lib.hid (HF.out.lt hn hT)
            have HST := Lib.hid (HF.out.step hn hT)
            have HTK := Lib.hid (fun (hb : s.ws (bestTo s.ws j) < T) => pick_take (k := i) (z := z) HZP.out hpn (by rw [HS0.out]; exact HF.out) hb)
            obtain ⟨rp, rc, hre, hrc⟩ := HR.out
            obtain ⟨rb, ro, rfl, _, hrc⟩ := hrc (by omega)
            simp only [Value.slice.injEq, Option.some.injEq, Addr.mk.injEq, and_true, true_and] at hre
            obtain ⟨⟨rfl, rfl⟩, rfl⟩ := hre
            have c2 := hrc (bestTo s.ws j) (by omega)
            simp only [Nat.zero_add] at c2
            have HXD := Lib.hid (HX.out.drewN dq)
            obtain ⟨o2, h2, _⟩ := HXD.out.right
            have HROW := Lib.hid (ap_row h2)
            have hwb := HB9.out (bestTo s.ws j) hbl
            clear hrc h2 HX HR
            generalize hb : bestTo s.ws j = b at *
            have hb2 : 0 ≤ (b : Int) ∧ (b : Int) < (j : Int) := by omega
            by_cases hlow : s.ws b < T
            · have f1 : decide (((s.ws b : Nat) : Int) < (W : Int) - (j : Int)) = true := decide_eq_true ((HWT.out _).2 hlow)
              go_wp2_with (at_builtin; refine wpList_append_new rfl (.tmp 84) (.tmp 86) 23 rfl 3 i0 (.int .i64 0) 1 8 Tryd.underlying23 hi0 hz0 hz1 hz2 rfl (by decide) _ _ _ rfl (HROW.out.alloc _) ⟨_, 0, none⟩ 1 1 [.int .i64 p] rfl rfl (cell_one _ _ _ _ (by simp)) (by simp [Value.oneCell']) (by simp only [maxLen]; omega) (by omega) ?_)
              intro v' w5 happ
              have HP := Lib.hid (pushInts _ HXD.out happ)
              clear happ HROW HXD
              obtain ⟨o3, h3, _, _, b3⟩ := HP.out.left
              have HB3 := Lib.hid b3
              have HRC := Lib.hid (rcome_walk (.slice (some ⟨g, 0, none⟩) j j) j s.ws p h3 hpn hn16 HB9.out)
              clear h3 b3
              go_wp2_with fail
              refine HRC.out.mono ?_
              rintro e w6 ⟨rfl, hX6⟩
              have HX6 := Lib.hid (HB3.out _ _ hX6)
              clear hX6
              go_wp2_with fail
              go_roundg (m - (i + 1))
              case measure => rw [HKK.out]; omega
              case rel => exact ⟨i + 1, by omega, rfl, by go_num, by rw [HTK.out hlow]; exact HX6.out⟩
            · have f1 : decide (((s.ws b : Nat) : Int) < (W : Int) - (j : Int)) = false := decide_eq_false fun h => hlow ((HWT.out _).1 h)
              go_wp2_with (at_builtin; refine wpList_append_new rfl (.tmp 77) (.tmp 79) 23 rfl 3 i0 (.int .i64 0) 1 8 Tryd.underlying23 hi0 hz0 hz1 hz2 rfl (by decide) _ _ _ rfl (HROW.out.alloc _) ⟨_, 0, none⟩ 1 1 [.int .i64 b] rfl rfl (cell_one _ _ _ _ (by simp)) (by simp [Value.oneCell']) (by simp only [maxLen]; omega) (by omega) ?_)
              intro v' w5 happ
              have HP := Lib.hid (pushInts _ HXD.out happ)
              clear happ HROW HXD
              obtain ⟨o3, h3, _, _, b3⟩ := HP.out.left
              have HB3 := Lib.hid b3
              have HRC := Lib.hid (rcome_walk (.slice (some ⟨g, 0, none⟩) j j) j s.ws b h3 hbl hn16 HB9.out)
              clear h3 b3
              go_wp2_with fail
              refine HRC.out.mono ?_
              rintro e w6 ⟨rfl, hX6⟩
              have HX6 := Lib.hid (HB3.out _ _ hX6)
              clear hX6
              have htj := HLT.out hlow
              go_wp2_with fail
              go_roundg (j + 1 - (t + 1))
              case measure => rw [HKT.out]; omega
              case rel => exact ⟨t + 1, s.come b, HST.out hlow, HFIT.out.come b, rfl, HX6.out⟩
    · have hd : decide ((i : Int) < (m : Int)) = false := by simp; omega
      have hd' : decide (i < m) = false := by simp; omega
      obtain rfl : i = m := by omega
      obtain ⟨o1, h1, _⟩ := HX.out.right
      have HZ := Lib.hid (HX.out.swap.fst)
      clear h1 HX
      go_wp2_with fail
      go_ret2
      exact ⟨_, rfl, HZ.out⟩
end Go.Proofs.YtfipoadgfebibaaDoor
