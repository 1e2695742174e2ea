/- The walk of SkipTogether: true at all asks and picks, and nothing that was there has changed. -/
import Derived.Test.YtpckpgdkfimapaaDoorSkipPut
namespace Go.Proofs.YtpckpgdkfimapaaDoor
open Go Go.RowKit
set_option linter.unusedVariables false

variable {w0 w : World} {a : Nat → SAsk} {N : Nat}

set_option maxHeartbeats 2000000 in
set_option maxRecDepth 100000 in
theorem made_walk (w W : World) (hT : TabAt w) (hk : Kept [] w W) :
    Calls Tryd.prog 7 #[] W fun e w' => ∃ ab b, e = .returned (.tuple #[.pointer (some ⟨ab, 0, none⟩), .pointer (some ⟨b, 0, none⟩)]) ∧ Has [] w w' (.skl b (.fresh ab 600 0)) := by
  have HT := Lib.hid hT
  have HA0 := Lib.hid (new_ar w W hk 600 (by omega) (by omega))
  clear hT hk
  go_enter Tryd.func7, Tryd.ntmps7
  go_wp2_with fail
  refine HA0.out.mono ?_
  rintro e w1 ⟨ab, rfl, hA⟩
  have HA := Lib.hid hA
  clear hA
  go_wp2_with fail
  refine (sknew_walk HA.out (fun _ => rfl) (by show 8 ≤ 600; omega) (by show 600 ≤ 65536; omega) HT.out tab_nil).mono ?_
  rintro e w2 ⟨b, x, rfl, hr, hX⟩
  have HX := Lib.hid (Has.skShut hr hX)
  clear hX hr HA
  go_wp2_with fail
  go_ret2
  exact ⟨ab, b, rfl, HX.out⟩

theorem cut_asks {p : Option Addr} {n m : Nat} (h : AskIn w p n a) (hm : m ≤ n) : AskIn w p m a := by
  intro h0
  obtain ⟨g, off, e, hc⟩ := h (by omega)
  exact ⟨g, off, e, fun i hi => hc i (by omega)⟩
theorem cut_nums {p : Option Addr} {n m : Nat} {z : Nat → Int} (h : InRow w p n z) (hm : m ≤ n) : InRow w p m z :=
  ⟨fun e => by have := h.1 e; omega, fun h0 => by
    obtain ⟨g, off, e, hb, hc⟩ := h.2 (by omega)
    exact ⟨g, off, e, hb, fun i hi => hc i (by omega)⟩⟩
theorem kind_in {p : Option Addr} (h : AskIn w p N a) : KindIn a N := fun j hj => by
  obtain ⟨g, off, _, hc⟩ := h (by omega)
  exact (hc j hj).2.2.2.2.2.2
theorem slice_asks (p : Option Addr) (n c m : Nat) (hm : m ≤ c) (w : World) : (Instr.slice 22 (.slice p n c) none (some (.int .i64 (m : Int))) none).run Tryd.prog w = .ok (.slice p m c) w := by
  rw [run_slice_h w 22 p n c (by kernel_rfl) .i64 (m : Int) (by omega) (by omega), show (sizeOf (Tryd.prog.elem 22)).run Tryd.prog w = .ok 5 w from by kernel_rfl]
  show Result.ok (sliced p 0 ((m : Int)).toNat c 5) w = _
  unfold sliced
  rw [Int.toNat_natCast, Nat.zero_mul, Nat.sub_zero, Nat.sub_zero]
  congr 2
  split
  · rfl
  · cases p <;> rfl
theorem slice_nums (p : Option Addr) (n c m : Nat) (hm : m ≤ c) (w : World) : (Instr.slice 23 (.slice p n c) none (some (.int .i64 (m : Int))) none).run Tryd.prog w = .ok (.slice p m c) w := by
  rw [run_slice_h w 23 p n c (by kernel_rfl) .i64 (m : Int) (by omega) (by omega), show (sizeOf (Tryd.prog.elem 23)).run Tryd.prog w = .ok 1 w from by kernel_rfl]
  show Result.ok (sliced p 0 ((m : Int)).toNat c 1) w = _
  unfold sliced
  rw [Int.toNat_natCast, Nat.zero_mul, Nat.sub_zero, Nat.sub_zero]
  congr 2
  split
  · rfl
  · cases p <;> rfl

set_option maxHeartbeats 4000000 in
set_option maxRecDepth 100000 in
theorem together10_law (hT : TabAt w0) {pa pp : Option Addr} {na ca np cp : Nat} {z : Nat → Int} (hA : AskIn w0 pa na a) (hZ : InRow w0 pp np z) (hzr : ∀ i, i < np → -9223372036854775808 ≤ z i ∧ z i < 9223372036854775808) (ha : na ≤ ca) (ha2 : ca ≤ maxLen) (hp : np ≤ cp) (hp2 : cp ≤ maxLen)
    (HTG : ∀ (W : World) (ab b N P : Nat), Has [] w0 W (.skl b (.fresh ab 600 0)) → N ≤ 40 → P ≤ 10000 → AskIn w0 pa N a → InRow w0 pp P z → (∀ i, i < P → -9223372036854775808 ≤ z i ∧ z i < 9223372036854775808) →
      Calls Tryd.prog 8 #[.pointer (some ⟨b, 0, none⟩), .slice pa N ca, .slice pp P cp] W fun e w' => ∃ (lv : Value) (ga gn : Nat) (obs : Nat → Nat) (g : Tg) (t : Int), e = .returned (.tuple #[lv, .bool true]) ∧ g.n = N ∧ (∀ k, k < N → 0 ≤ g.en k) ∧ g.T.ab = ab ∧ TgI a N t g ∧ Has [] w0 w' (.tog b lv ga gn obs a g))
    (HFT : ∀ (W W' : World) (b : Nat) (lp : Option Addr) (lc ga gn N : Nat) (obs : Nat → Nat) (g : Tg) (t : Int), Has [] w0 W (.tog b (.slice lp N lc) ga gn obs a g) → Fin a N t g → KindIn a N → N ≤ 40 → ∀ i, i < N → Kept [] W W' →
      Calls Tryd.prog 9 #[.slice lp N lc, .int .i64 i] W' fun e w' => e = .returned (.bool true) ∧ Kept [] W' w') :
    Calls Tryd.prog 3 #[.slice pa na ca, .slice pp np cp] w0 fun e w' => e = .returned (.bool true) ∧ Kept [] w0 w' := by
  have HT := Lib.hid hT
  obtain ⟨N, hNe⟩ : ∃ N, min na 40 = N := ⟨_, rfl⟩
  obtain ⟨P, hPe⟩ : ∃ P, min np 10000 = P := ⟨_, rfl⟩
  have hN : N ≤ 40 ∧ N ≤ na := by omega
  have hP : P ≤ 10000 ∧ P ≤ np := by omega
  have HA := Lib.hid (cut_asks hA hN.2)
  have HZ := Lib.hid (cut_nums hZ hP.2)
  have HZR := Lib.hid (fun i (hi : i < P) => hzr i (by omega))
  have HTH := Lib.hid HTG
  have HFH := Lib.hid HFT
  have hx1 : ca ≤ 9223372036854775807 := Nat.le_trans ha2 (by decide)
  have hx2 : cp ≤ 9223372036854775807 := Nat.le_trans hp2 (by decide)
  obtain ⟨hN1, hN2⟩ := hN
  obtain ⟨hP1, hP2⟩ := hP
  have hs1 := slice_asks pa na ca N (by omega)
  have hs2 := slice_nums pp np cp P (by omega)
  have hm1 : min (na : Int) 40 = (N : Int) := by omega
  have hm2 : min (np : Int) 10000 = (P : Int) := by omega
  have HM := Lib.hid (And.intro hs1 (And.intro hs2 (And.intro hm1 hm2)))
  clear hT hA hZ hzr hNe hPe HTG HFT hs1 hs2 hm1 hm2
  go_enter Tryd.func3, Tryd.ntmps3
  go_wp2_with fail
  refine (shown_calls w0 HT.out).mono ?_
  rintro e w1 ⟨rfl, hk⟩
  have HMD := Lib.hid (made_walk w0 w1 HT.out hk)
  clear hk
  go_wp2_with fail
  refine HMD.out.mono ?_
  rintro e w2 ⟨ab, b, rfl, hX⟩
  have HX := Lib.hid hX
  clear hX HMD
  go_wp2_with fail
  obtain ⟨hs1, hs2, hm1, hm2⟩ := HM.out
  go_region_held3 (fun _ => True) (trivial) (first | (go_at_call 8
                                                      refine (HTH.out _ ab b N P (HX.out.quiet ((Kept.refl _ _).drew)) hN1 hP1 HA.out HZ.out HZR.out).mono ?_
                                                      rintro e w3 ⟨lv, ga, gn, obs, g, t, rfl, hgn, hov, _, hI, hX3⟩
                                                      have HX3 := Lib.hid hX3
                                                      have HF := Lib.hid (show Fin a N t g from ⟨hI, hgn, hov⟩)
                                                      clear hX3 hgn hov hI))
  all_goals (
    obtain ⟨lp, lc, rfl⟩ := tog_slice HX3.out
    have HFI := Lib.hid (fun (c : Nat) (hc : c < N) (W : World) (hW : Kept [] w3 W) => HFH.out w3 W b lp lc ga gn N obs g t (by have := HX3.out; rw [HF.out.n] at this; exact this) HF.out (kind_in HA.out) hN1 c hc hW)
    rw [HF.out.n]
    clear hs1 hs2 hm1 hm2 HM HTH HFH
    go_wp2_with fail
    go_loopg [10] N (fun k iv wr => ∃ i : Nat, i ≤ N ∧ k = N - i ∧ iv = .int .i64 i ∧ Kept [] w3 wr)
    case atStart => exact ⟨0, Nat.zero_le _, rfl, rfl, Kept.refl _ _⟩
    case round =>
      obtain ⟨i, hi, hk, rfl, hX⟩ := hrel
      have HKR := Lib.hid hX
      have HKK := Lib.hid hk
      clear hX hk
      by_cases hlt : i < N
      · have f1 : decide ((i : Int) < (N : Int)) = true := by simp; omega
        have f1' : decide (i < N) = true := by simpa using hlt
        have HF1 := Lib.hid (HFI.out i hlt _ HKR.out)
        have HLT := Lib.hid hlt
        clear hlt
        go_wp2_with fail
        refine HF1.out.mono ?_
        rintro e w9 ⟨rfl, hk9⟩
        have HK9 := Lib.hid (HKR.out.tr hk9)
        clear hk9 HF1
        go_wp2_with fail
        go_roundg (N - (i + 1))
        case measure => rw [HKK.out]; have := HLT.out; omega
        case rel => exact ⟨i + 1, HLT.out, rfl, by go_num, HK9.out⟩
      · have f1 : decide ((i : Int) < (N : Int)) = false := by simp; omega
        have f1' : decide (i < N) = false := by simpa using hlt
        clear hlt
        go_wp2_with fail
        go_ret
        exact ⟨rfl, HX3.out.keeps.tr HKR.out⟩)
end Go.Proofs.YtpckpgdkfimapaaDoor
