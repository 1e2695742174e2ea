/- The walks of the statements' own put and isKey. -/
import Derived.Test.YtpckpgdkfimapaaDoorSkipEnd
namespace Go.Proofs.YtpckpgdkfimapaaDoor
open Go Go.RowKit
set_option linter.unusedVariables false

theorem str_ne {a b : ByteArray} (h : a ≠ b) : (a.toList == b.toList) = false := by
  rw [beq_eq_false_iff_ne]
  intro e
  rw [ByteArray.toList_eq, ByteArray.toList_eq] at e
  exact h (Go.WideShapes.bytes_inj e)
theorem str_same (a : ByteArray) : (a.toList == a.toList) = true := by simp

set_option maxHeartbeats 1000000 in
set_option maxRecDepth 100000 in
theorem lkey_walk (w : World) (s : ByteArray) : Calls Tryd.prog 24 #[.string s] w fun e w' => e = .returned (.bool (keyB s)) ∧ w' = w := by
  by_cases h0 : 1 ≤ s.size
  · have d1 : decide ((s.size : Int) ≥ 1) = true := by simp; omega
    have d1' : decide (1 ≤ (s.size : Int)) = true := by simp; omega
    have d4 : decide ((s.size : Int) ≤ 16) = keyB s := by
      unfold keyB
      by_cases h : s.size ≤ 16 <;> simp [h] <;> omega
    go_enter Tryd.func24, Tryd.ntmps24
    go_wp2_with fail
    go_ret
    exact ⟨rfl, rfl⟩
  · have d1 : decide ((s.size : Int) ≥ 1) = false := by simp; omega
    have d1' : decide (1 ≤ (s.size : Int)) = false := by simp; omega
    have hk : keyB s = false := by unfold keyB; simp; omega
    rw [hk]
    go_enter Tryd.func24, Tryd.ntmps24
    go_wp2_with fail
    go_ret
    exact ⟨rfl, rfl⟩

variable {o : List Nat} {w0 w : World} {b ga gn : Nat} {a : Nat → SAsk} {N : Nat} {t : Int} {g : Tg} {obs : Nat → Nat} {lp : Option Addr} {lc : Nat}

/-- A row's cells, where all are over. -/
theorem tf_row (h : Has o w0 w (.tog b (.slice lp N lc) ga gn obs a g)) (F : Fin a N t g) {k : Nat} (hk : k < N) : ∃ gl, lp = some ⟨gl, 0, none⟩ ∧ N ≤ maxLen ∧ ∀ w', Kept [] w w' →
    w'.cell? ⟨gl, k * 8, none⟩ = some (.int .i64 (a (g.x k)).wk) ∧ w'.cell? ⟨gl, k * 8 + 1, none⟩ = some (.int .i64 (a (g.x k)).kind) ∧ w'.cell? ⟨gl, k * 8 + 2, none⟩ = some (.string (a (g.x k)).key) ∧ w'.cell? ⟨gl, k * 8 + 3, none⟩ = some (.int .i64 (a (g.x k)).ref) ∧ w'.cell? ⟨gl, k * 8 + 4, none⟩ = some (.int .i64 (a (g.x k)).height) ∧
    w'.cell? ⟨gl, k * 8 + 5, none⟩ = some (.pointer (some ⟨obs k, 0, none⟩)) ∧ w'.cell? ⟨gl, k * 8 + 6, none⟩ = some (.int .i64 (g.bg k)) ∧ w'.cell? ⟨gl, k * 8 + 7, none⟩ = some (.int .i64 (g.en k)) := by
  obtain ⟨gl, cap, he, hc, hm⟩ := tog_row h (k := k) (by rw [F.n]; exact hk)
  rw [F.n] at he hm
  obtain ⟨rfl, _⟩ : lp = some ⟨gl, 0, none⟩ ∧ lc = cap := by simpa using he
  exact ⟨gl, rfl, hm, fun w' kk => ⟨kk.cell (hc 0 _ rfl) (by simp), kk.cell (hc 1 _ rfl) (by simp), kk.cell (hc 2 _ rfl) (by simp), kk.cell (hc 3 _ rfl) (by simp), kk.cell (hc 4 _ rfl) (by simp), kk.cell (hc 5 _ rfl) (by simp), kk.cell (hc 6 _ rfl) (by simp), kk.cell (hc 7 _ rfl) (by simp)⟩⟩
theorem tf_ref (h : Has o w0 w (.tog b (.slice lp N lc) ga gn obs a g)) (F : Fin a N t g) {k : Nat} (hk : k < N) {w' : World} (kk : Kept [] w w') :
    Calls Tryd.prog 10 #[.pointer (some ⟨obs k, 0, none⟩)] w' fun e w'' => e = .returned (.tuple #[.string (g.q k).found, .int .i64 (g.q k).ref, .bool (g.q k).had, .int .i64 (g.q k).code]) ∧ Kept [] w' w'' :=
  tog_ref (h.quiet kk) (by rw [F.n]; exact hk) (F.told hk).1
/-- Kinds within their bounds. -/
def KindIn (a : Nat → SAsk) (N : Nat) : Prop := ∀ j, j < N → -9223372036854775808 ≤ (a j).kind ∧ (a j).kind < 9223372036854775808
theorem kd_walk (hK : KindIn a N) {j : Nat} (hj : j < N) (W : World) :
    Calls Tryd.prog 11 #[.int .i64 (a j).kind, .int .i64 3] W fun e w' => e = .returned (.int .i64 (a j).kd) ∧ w' = W :=
  pick_walk W _ 3 (hK j hj).1 (hK j hj).2 (by omega) (by omega)

set_option maxHeartbeats 4000000 in
set_option maxRecDepth 100000 in
theorem put_walk (h : Has o w0 w (.tog b (.slice lp N lc) ga gn obs a g)) (F : Fin a N t g) (hK : KindIn a N) (hN : N ≤ 40) (key : ByteArray) {W : World} (kW : Kept [] w W) :
    Calls Tryd.prog 25 #[.slice lp N lc, .string key] W fun e w' => ∃ r : Int, e = .returned (.int .i64 r) ∧ Kept [] W w' ∧ ((r = -1 ∧ ∀ l, l < N → putB a g l = true → (a (g.x l)).key ≠ key) ∨ ∃ l : Nat, l < N ∧ r = (l : Int) ∧ putB a g l = true ∧ (a (g.x l)).key = key) := by
  have H := Lib.hid h
  have HF := Lib.hid F
  have HK := Lib.hid hK
  have HW := Lib.hid kW
  clear h F hK kW
  go_enter Tryd.func25, Tryd.ntmps25
  go_wp2_with fail
  go_loopg [5] N (fun k iv wr => ∃ c : Nat, c ≤ N ∧ k = N - c ∧ iv = .int .i64 c ∧ (∀ l, l < c → putB a g l = true → (a (g.x l)).key ≠ key) ∧ Kept [] W wr)
  case atStart => exact ⟨0, Nat.zero_le _, rfl, rfl, fun l hl => absurd hl (Nat.not_lt_zero _), Kept.refl _ _⟩
  case round =>
    obtain ⟨c, hcN, hk, rfl, hno, hkr⟩ := hrel
    have HNO := Lib.hid hno
    have HKR := Lib.hid hkr
    have HKK := Lib.hid hk
    clear hno hkr hk
    by_cases hlt : c < N
    · have d1 : decide ((c : Int) < (N : Int)) = true := by simp; omega
      have d1' : decide (c < N) = true := by simpa using hlt
      have q1 : 0 ≤ (c : Int) ∧ (c : Int) < (N : Int) := by omega
      obtain ⟨gl, rfl, hm, hcl⟩ := tf_row H.out HF.out hlt
      have hn9 : N ≤ 9223372036854775807 := Nat.le_trans hm (by decide)
      have HCL := Lib.hid hcl
      have HRF := Lib.hid (tf_ref H.out HF.out hlt (HW.out.tr HKR.out))
      have HKD := Lib.hid (fun W => kd_walk HK.out (HF.out.key hlt).1 W)
      obtain ⟨_, _, _, _, _, c5, _⟩ := hcl _ (HW.out.tr HKR.out)
      have HTL := Lib.hid (HF.out.told hlt)
      have HLT := Lib.hid hlt
      have hpb : putB a g c = (decide ((a (g.x c)).kd = 0) && !(g.q c).had && decide ((g.q c).code = 0)) := rfl
      have HPB := Lib.hid hpb
      clear hcl hlt hm hpb
      go_wp2_with fail
      refine HRF.out.mono ?_
      rintro e w2 ⟨rfl, hk2⟩
      obtain ⟨_, c1, c2, _⟩ := HCL.out _ ((HW.out.tr HKR.out).tr hk2)
      have HK2 := Lib.hid (HKR.out.tr hk2)
      clear hk2 HRF c5
      obtain ⟨kd, hkd⟩ : ∃ kd, (a (g.x c)).kd = kd := ⟨_, rfl⟩
      obtain ⟨hd, hhd⟩ : ∃ hd, (g.q c).had = hd := ⟨_, rfl⟩
      obtain ⟨cd, hcd⟩ : ∃ cd, (g.q c).code = cd := ⟨_, rfl⟩
      obtain ⟨ck, hck⟩ : ∃ ck, (a (g.x c)).key = ck := ⟨_, rfl⟩
      rw [hkd] at HKD
      rw [hkd, hhd, hcd] at HPB
      rw [hck] at c2
      rw [hhd, hcd]
      have HCK := Lib.hid hck
      have k3 := SAsk.kd3 (a (g.x c))
      rw [hkd] at k3
      have HK3 := Lib.hid k3
      clear hkd hhd hcd hck k3
      go_wp2_with fail
      refine (HKD.out _).mono ?_
      rintro e w3 ⟨rfl, rfl⟩
      by_cases hk0 : kd = 0
      · subst hk0
        by_cases hke : ck = key
        · subst hke
          have s1 := str_same ck
          cases hd with
          | true =>
            have HE := Lib.hid (show putB a g c = false from HPB.out)
            go_wp2_with fail
            go_roundg (N - (c + 1))
            case measure => rw [HKK.out]; have := HLT.out; omega
            case rel => exact ⟨c + 1, HLT.out, rfl, by go_num, fun l hl hp => by
              by_cases e : l = c
              · subst e; rw [HE.out] at hp; cases hp
              · exact HNO.out l (by omega) hp, HK2.out⟩
          | false =>
            by_cases hc0 : cd = 0
            · subst hc0
              have HE := Lib.hid (show putB a g c = true from HPB.out)
              go_wp2_with fail
              go_ret
              exact ⟨(c : Int), rfl, HK2.out, .inr ⟨c, HLT.out, rfl, HE.out, HCK.out⟩⟩
            · have g1 : (cd == 0) = false := by simpa using hc0
              have g2 : decide (cd = 0) = false := decide_eq_false hc0
              have HE := Lib.hid (show putB a g c = false by rw [HPB.out, g2]; rfl)
              clear hc0
              go_wp2_with fail
              go_roundg (N - (c + 1))
              case measure => rw [HKK.out]; have := HLT.out; omega
              case rel => exact ⟨c + 1, HLT.out, rfl, by go_num, fun l hl hp => by
                by_cases e : l = c
                · subst e; rw [HE.out] at hp; cases hp
                · exact HNO.out l (by omega) hp, HK2.out⟩
        · have s1 := str_ne hke
          have HE := Lib.hid hke
          clear hke
          go_wp2_with fail
          go_roundg (N - (c + 1))
          case measure => rw [HKK.out]; have := HLT.out; omega
          case rel => exact ⟨c + 1, HLT.out, rfl, by go_num, fun l hl hp => by
            by_cases e : l = c
            · subst e; rw [HCK.out]; exact HE.out
            · exact HNO.out l (by omega) hp, HK2.out⟩
      · have g1 : (kd == 0) = false := by simpa using hk0
        have g2 : decide (kd = 0) = false := decide_eq_false hk0
        have HE := Lib.hid (show putB a g c = false by rw [HPB.out, g2]; rfl)
        clear hk0
        go_wp2_with fail
        go_roundg (N - (c + 1))
        case measure => rw [HKK.out]; have := HLT.out; omega
        case rel => exact ⟨c + 1, HLT.out, rfl, by go_num, fun l hl hp => by
          by_cases e : l = c
          · subst e; rw [HE.out] at hp; cases hp
          · exact HNO.out l (by omega) hp, HK2.out⟩
    · have d1 : decide ((c : Int) < (N : Int)) = false := by simp; omega
      have d1' : decide (c < N) = false := by simpa using hlt
      obtain rfl : c = N := by omega
      clear hlt
      go_wp2_with fail
      go_ret
      exact ⟨-1, rfl, HKR.out, .inl ⟨rfl, HNO.out⟩⟩
end Go.Proofs.YtpckpgdkfimapaaDoor
