/- The walk of the program's Turns at numbers that fit. -/
import Derived.Test.YtfipoadgfebibaaDoorTurns
namespace Go.Proofs.YtfipoadgfebibaaDoor
open Go Go.RowKit
set_option linter.unusedVariables false

/-- When each came last, against how long it has waited. -/
def Since (n : Nat) (last : Nat → Nat) (s : TS) : Prop := ∀ k, k < n → last k + s.ws k = s.out.length

theorem Since.come {n : Nat} {last : Nat → Nat} {s : TS} (h : Since n last s) (q : Nat) : Since n (fun k => if k = q then s.out.length + 1 else last k) (s.come q) := by
  intro k hk
  have := h k hk
  rw [TS.come_len]
  show (if k = q then s.out.length + 1 else last k) + (if k = q then 0 else s.ws k + 1) = _
  split <;> omega

theorem Since.least {n : Nat} {last : Nat → Nat} {s : TS} (h : Since n last s) (hn : 1 ≤ n) : minTo (fun i => ((last i : Nat) : Int)) (n - 1) = ((last (bestTo s.ws n) : Nat) : Int) := by
  have hb := bestTo_lt s.ws n hn
  have h1 := minTo_le (fun i => ((last i : Nat) : Int)) (n - 1) (bestTo s.ws n) (by omega)
  obtain ⟨i, hi, e⟩ := minTo_mem (fun i => ((last i : Nat) : Int)) (n - 1)
  have h2 := bestTo_max s.ws n i (by omega)
  have h3 := h i (by omega)
  have h4 := h _ hb
  rw [e] at h1 ⊢
  have h5 : ((last i : Nat) : Int) ≤ ((last (bestTo s.ws n) : Nat) : Int) := h1
  show ((last i : Nat) : Int) = _
  omega

theorem Since.first {n : Nat} {last : Nat → Nat} {s : TS} (h : Since n last s) (hn : 1 ≤ n) (i : Nat) (hi : i < bestTo s.ws n) : ((last i : Nat) : Int) ≠ ((last (bestTo s.ws n) : Nat) : Int) := by
  have hb := bestTo_lt s.ws n hn
  have h2 := bestTo_first s.ws n i hi
  have h3 := h i (by omega)
  have h4 := h _ hb
  omega

theorem TurnP.made (w : World) (n : Nat) (hn : n ≤ 5000) : Has [] w (((w.alloc (.cells (madeCells #[.int .i64 0] n) 3)).alloc (.cells #[.slice (some ⟨w.heap.size, 0, none⟩) n n] 23)).alloc (.cells #[.slice none 0 0] 23))
    (TurnP (w.heap.size + 1) (w.heap.size + 1 + 1) (.slice (some ⟨w.heap.size, 0, none⟩) n n) (.slice none 0 0) n (fun _ => 0) []) := by
  have h1 := Has.madeNats w n hn
  have h2 := Has.madeBlk (w := w.alloc (.cells (madeCells #[.int .i64 0] n) 3)) #[.slice (some ⟨w.heap.size, 0, none⟩) n n] 23 (fun _ => .slice (some ⟨w.heap.size, 0, none⟩) n n) 1 rfl (fun i hi => match i, hi with | 0, _ => rfl)
  have h3 := Has.madeBlk (w := (w.alloc (.cells (madeCells #[.int .i64 0] n) 3)).alloc (.cells #[.slice (some ⟨w.heap.size, 0, none⟩) n n] 23)) #[.slice none 0 0] 23 (fun _ => .slice none 0 0) 1 rfl (fun i hi => match i, hi with | 0, _ => rfl)
  have h4 := (h1.beside h2).swap.beside (h3.beside (Has.nilInts _))
  simp only [World.size_alloc] at h4
  exact h4

theorem fn_made : ∀ (fn : Fn) (first cap : Array Value) (w : World), (Instr.makeFunc fn first cap).run Tryd.prog w = .ok (.func fn first cap) w := fun _ _ _ _ => rfl

set_option maxHeartbeats 8000000 in
set_option maxRecDepth 100000 in
theorem pturns_yes (w : World) (n W T : Nat) (m : Nat) (z : Nat → Int) (q : Option Addr) (qcap : Nat) (hp : PicksAt w (.slice q m qcap) m z) (hn : 1 ≤ n) (hn16 : n ≤ 16) (hW : W = n + T) (hT : n ≤ T) (hW1 : W ≤ 1000) (hm6 : m ≤ 65536) :
    Calls Tryd.prog 15 #[.int .i64 n, .int .i64 W, .slice q m qcap] w fun e w' => ∃ v, e = .returned (.tuple #[v, .int .i64 0]) ∧ Has [] w w' (.ints v (turnsS n T z m).out) := by
  obtain ⟨q', qcap', he, hm, hQ⟩ := hp
  obtain ⟨rfl, rfl⟩ : q = q' ∧ qcap = qcap' := by simpa using he
  clear he
  have HQ := Lib.hid hQ
  have HW := Lib.hid hW
  have hWT : ∀ (x : Nat), ((x : Int) < (W : Int) - (n : Int)) ↔ x < T := fun x => by omega
  clear hQ
  have hmk := make_int n (by omega)
  have hmf := fn_made
  have d1 : decide ((n : Int) < 1) = false := by simp; omega
  have d2 : decide ((n : Int) > 16) = false := by simp; omega
  have d3 : decide ((W : Int) < 2 * (n : Int)) = false := by simp; omega
  have d4 : decide ((W : Int) > 1000) = false := by simp; omega
  have d5 : decide ((m : Int) > 65536) = false := by simp; omega
  have HM := Lib.hid (TurnP.made w n (by omega))
  have HWT := Lib.hid hWT
  clear hW hWT
  go_enter Tryd.func15, Tryd.ntmps15
  go_wp2_with fail
  clear d1 d2 d3 d4 d5 hmk hmf
  generalize w.heap.size + 1 + 1 = b9 at *
  generalize w.heap.size + 1 = b8 at *
  generalize w.heap.size = g at *
  go_loopg [40] m (fun k iv wr => ∃ (i : Nat) (last : Nat → Nat) (ov : Value), i ≤ m ∧ k = m - i ∧ iv = .int .i64 i ∧ Since n last (turnsS n T z i) ∧ Has [] w wr (TurnP b8 b9 (.slice (some ⟨g, 0, none⟩) n n) ov n last (turnsS n T z i).out))
  case atStart => exact ⟨0, fun _ => 0, _, Nat.zero_le _, rfl, rfl, fun _ _ => rfl, HM.out⟩
  case round =>
    clear HM
    obtain ⟨i, last0, ov0, hi, hk, rfl, hsince0, hX⟩ := hrel
    have HKK := Lib.hid hk
    have HX := Lib.hid hX
    have HS0' := Lib.hid hsince0
    clear hk hX hsince0
    by_cases hlt : i < m
    · have hd : decide ((i : Int) < (m : Int)) = true := by simp; omega
      have hd' : decide (i < m) = true := by simp; omega
      obtain ⟨pb, poff, rfl, _, hqc⟩ := HQ.out (by omega)
      have c0 := HX.out.keeps.cell (hqc i hlt) (by simp)
      clear hqc
      by_cases hx0 : z i < 0
      · have e0 : decide (z i < 0) = true := by simpa using hx0
        go_wp2_with fail
        go_roundg (m - (i + 1))
        case measure => rw [HKK.out]; omega
        case rel => exact ⟨i + 1, last0, ov0, by omega, rfl, by go_num, by rw [pick_skip (by omega)]; exact HS0'.out, by rw [pick_skip (by omega)]; exact HX.out⟩
      have e0 : decide (z i < 0) = false := by simpa using hx0
      by_cases hxn : (n : Int) ≤ z i
      · have e1 : decide (z i ≥ (n : Int)) = true := by simpa using hxn
        go_wp2_with fail
        go_roundg (m - (i + 1))
        case measure => rw [HKK.out]; omega
        case rel => exact ⟨i + 1, last0, ov0, by omega, rfl, by go_num, by rw [pick_skip (by omega)]; exact HS0'.out, by rw [pick_skip (by omega)]; exact HX.out⟩
      have e1 : decide (z i ≥ (n : Int)) = false := by simp; omega
      obtain ⟨p, hzp⟩ := Int.eq_ofNat_of_zero_le (a := z i) (by omega)
      have hpn : p < n := by omega
      have hlen0 := turnsS_len hn hT z i
      have hfit0 := turnsS_fit hn hT z i
      have hstart := FillInv.start n T (turnsS n T z i)
      have HZP := Lib.hid hzp
      rw [hzp] at c0 e0 e1
      have e1' : decide (n ≤ p) = false := by simp; omega
      have hi17 : i * (n + 1) ≤ 65536 * 17 := Nat.mul_le_mul (by omega) (by omega)
      clear hzp hx0 hxn
      generalize hs0 : turnsS n T z i = s0 at *
      have HS0 := Lib.hid hs0
      clear hs0
      go_wp2_with fail
      go_loopg [] (n + 1) (fun k wx => ∃ (t : Nat) (s : TS) (last : Nat → Nat) (ov : Value), FillInv n T s0 t s ∧ s.Fit n ∧ Since n last s ∧ k = n + 1 - t ∧ Has [] w wx (TurnP b8 b9 (.slice (some ⟨g, 0, none⟩) n n) ov n last s.out))
      case atStart => exact ⟨0, s0, last0, ov0, hstart, hfit0, HS0'.out, rfl, HX.out⟩
      case round =>
        clear HX hstart hfit0 c0 HS0'
        obtain ⟨t, s, last, ov, hfill, hfit, hsince, hk2, hX⟩ := hrel
        rename World => wx
        have HKT := Lib.hid hk2
        have hbl := bestTo_lt s.ws n hn
        have hl9 : s.out.length ≤ 10000000 := by have := hfill.len; have := hfill.le; omega
        have hsb := hsince _ hbl
        have hleast := hsince.least hn
        have HFIRST := Lib.hid (hsince.first hn)
        have HLT := Lib.hid (hfill.lt hn hT)
        have HST := Lib.hid (hfill.step hn hT)
        have HTK := Lib.hid (fun (hb : s.ws (bestTo s.ws n) < T) => pick_take (k := i) (z := z) HZP.out hpn (by rw [HS0.out]; exact hfill) hb)
        have HF := Lib.hid hfill
        have HFIT := Lib.hid hfit
        have HSI := Lib.hid hsince
        have HX := Lib.hid hX
        obtain ⟨c8, c9, _, ⟨op, oc, rfl⟩, _, hlast⟩ := TurnP.cells hX
        have HLAST := Lib.hid hlast
        have HMIN := Lib.hid (min_walk wx _ n (fun i => ((last i : Nat) : Int)) hlast hn hn16)
        have HIDX := Lib.hid (index_walk wx _ n (fun i => ((last i : Nat) : Int)) (bestTo s.ws n) hlast hbl hn16 (hsince.first hn))
        rw [hleast] at HMIN
        clear hk2 hX hfill hfit hsince hleast hlast
        have HPC := fun (q : Nat) (hq : q < n) => pcome_walk b8 b9 _ _ n last s.out q HX.out hq hn16 (by omega)
        have HPC := Lib.hid HPC
        generalize hb : bestTo s.ws n = b at *
        have HB := Lib.hid hb
        clear hb
        have hdiff : ((s.out.length : Nat) : Int) - ((last b : Nat) : Int) = ((s.ws b : Nat) : Int) := by omega
        have HWB := Lib.hid (HWT.out (s.ws b))
        generalize hlb : last b = lb at *
        have HLB := Lib.hid hlb
        clear hlb
        go_wp2_with fail
        refine HMIN.out.mono ?_
        rintro e wm ⟨rfl, rfl⟩
        by_cases hlow : s.ws b < T
        · have f1 : decide (((s.ws b : Nat) : Int) < (W : Int) - (n : Int)) = true := decide_eq_true (HWB.out.2 hlow)
          go_wp2_with fail
          refine (HPC.out p hpn).mono ?_
          rintro e w6 ⟨rfl, ov', hX6⟩
          have HX6 := Lib.hid hX6
          clear hX6
          go_wp2_with fail
          go_roundg (m - (i + 1))
          case measure => rw [HKK.out]; omega
          case rel => exact ⟨i + 1, _, ov', by omega, rfl, by go_num, by rw [HTK.out hlow]; exact HSI.out.come p, by rw [HTK.out hlow]; exact HX6.out⟩
        · have f1 : decide (((s.ws b : Nat) : Int) < (W : Int) - (n : Int)) = false := decide_eq_false fun h => hlow (HWB.out.1 h)
          go_wp2_with fail
          refine HIDX.out.mono ?_
          rintro e wi ⟨rfl, rfl⟩
          go_wp2_with fail
          refine (HPC.out b hbl).mono ?_
          rintro e w6 ⟨rfl, ov', hX6⟩
          have HX6 := Lib.hid hX6
          clear hX6
          have htj := HLT.out hlow
          go_wp2_with fail
          go_roundg (n + 1 - (t + 1))
          case measure => rw [HKT.out]; omega
          case rel => exact ⟨t + 1, s.come b, _, ov', HST.out hlow, HFIT.out.come b, HSI.out.come b, rfl, HX6.out⟩
    · have hd : decide ((i : Int) < (m : Int)) = false := by simp; omega
      have hd' : decide (i < m) = false := by simp; omega
      obtain rfl : i = m := by omega
      obtain ⟨_, c9, _, ⟨op, oc, rfl⟩, _, _⟩ := TurnP.cells HX.out
      have HZ := Lib.hid (HX.out.weaken ((Part.Imp.snd _ _).trans (Part.Imp.snd _ _)))
      clear HX
      go_wp2_with fail
      go_ret2
      exact ⟨_, rfl, HZ.out⟩
end Go.Proofs.YtfipoadgfebibaaDoor
