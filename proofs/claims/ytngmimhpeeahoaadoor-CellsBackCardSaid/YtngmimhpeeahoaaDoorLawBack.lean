/- The walk of CellsBack. -/
import Derived.Test.YtngmimhpeeahoaaDoorLawShown
namespace Go.Proofs.YtngmimhpeeahoaaDoor
open Go Go.RowKit
set_option linter.unusedVariables false

theorem Own.supp {w0 w b} {S : Ar} (h : Own w0 w b S) {c : Nat} {v : Int} (hg : S.get c = some v) : c < S.size := by
  obtain ⟨fp, ⟨hv, hs, ws, low, used, hr, hfp, hi⟩, _, _⟩ := h
  have := (ArenaAt.getD hi hg).2
  have := hi.cap
  omega

theorem exists_least_free (get : Nat → Option Int) (n : Nat) (h : cnt get n < n) : ∃ c, c < n ∧ get c = none ∧ ∀ d, d < c → (get d).isSome = true := by
  induction n with
  | zero => omega
  | succ n ih =>
    by_cases hf : ∀ c, c < n → (get c).isSome = true
    · have := (cnt_full get n).2 hf
      refine ⟨n, by omega, ?_, hf⟩
      cases hg : get n with
      | none => rfl
      | some v =>
        unfold cnt at h
        rw [this, hg] at h
        simp at h
    · have : cnt get n < n := by
        refine Nat.lt_of_le_of_ne (cnt_le get n) fun e => hf ((cnt_full get n).1 e)
      obtain ⟨c, h1, h2, h3⟩ := ih this
      exact ⟨c, by omega, h2, h3⟩

set_option maxHeartbeats 4000000 in
set_option maxRecDepth 100000 in
theorem back_walk_no (w : World) (hT : TabAt w) (size v : Int) (l : Value) (hs : size < 1 ∨ 300 < size) :
    Calls Tryd.prog 5 #[.int .i64 size, l, .int .u64 v] w fun e w' => e = .returned (.bool true) ∧ Kept [] w w' := by
  have HT := Lib.hid hT
  clear hT
  rcases hs with hs | hs
  · have h2 : decide (size < 1) = true := by simp; omega
    go_enter Tryd.func5, Tryd.ntmps5
    go_wp2_with fail
    refine (shown_calls w HT.out).mono ?_
    rintro e w0 ⟨rfl, hk0⟩
    have HK0 := Lib.hid hk0
    clear hk0
    go_wp2_with fail
    go_ret
    exact ⟨rfl, HK0.out⟩
  · have h2 : decide (size < 1) = false := by simp; omega
    have h3 : decide (size > 300) = true := by simp; omega
    go_enter Tryd.func5, Tryd.ntmps5
    go_wp2_with fail
    refine (shown_calls w HT.out).mono ?_
    rintro e w0 ⟨rfl, hk0⟩
    have HK0 := Lib.hid hk0
    clear hk0
    go_wp2_with fail
    go_ret
    exact ⟨rfl, HK0.out⟩

/-- The arena behind the first i rounds. -/
def filled (S : Ar) (size i : Nat) (v : Int) : Prop := S.size = size ∧ ∀ c, S.get c = if c < i then some v else none

set_option maxHeartbeats 8000000 in
set_option maxRecDepth 100000 in
theorem back_walk (w : World) (hT : TabAt w) (size : Nat) (v : Int) (hs1 : 1 ≤ size) (hs2 : size ≤ 300) (p : Option Addr) (n cap : Nat) (zs : List Int) (hz : zs.length ≤ 140737488351232) (hn : n = zs.length)
    (hwf : ∀ i, i < n → -9223372036854775808 ≤ zs.getD i 0 ∧ zs.getD i 0 < 9223372036854775808)
    (hp : 0 < n → ∃ ab off, p = some ⟨ab, off, none⟩ ∧ ∀ i, i < n → w.cell? ⟨ab, off + i, none⟩ = some (.int .i64 (zs.getD i 0))) :
    Calls Tryd.prog 5 #[.int .i64 size, .slice p n cap, .int .u64 v] w fun e w' => e = .returned (.bool true) ∧ Kept [] w w' := by
  have HT := Lib.hid hT
  have HP := Lib.hid hp
  have HWF := Lib.hid hwf
  have hnz : n ≤ 140737488351232 := by omega
  have HN := Lib.hid hn
  clear hT hp hwf hn hz
  have h2 : decide ((size : Int) < 1) = false := by simp; omega
  have h3 : decide ((size : Int) > 300) = false := by simp; omega
  go_enter Tryd.func5, Tryd.ntmps5
  go_wp2_with fail
  refine (shown_calls w HT.out).mono ?_
  rintro e w0 ⟨rfl, hk0⟩
  have HK0 := Lib.hid hk0
  clear hk0
  go_wp2_with fail
  refine (own_new HK0.out size (by omega) (by omega)).mono ?_
  rintro e w1 ⟨b, rfl, hO⟩
  have HO := Lib.hid hO
  clear hO
  go_wp2_with fail
  go_loopg [10] size (fun k iv wr => ∃ (i : Nat) (S : Ar), i ≤ size ∧ k = size - i ∧ iv = .int .i64 i ∧ Own w wr b S ∧ filled S size i v)
  case atStart => exact ⟨0, _, Nat.zero_le _, rfl, rfl, HO.out, by simp, fun c => by simp⟩
  case round =>
    obtain ⟨i, S, hi, hk, rfl, hO, hF⟩ := hrel
    clear HO
    have HO := Lib.hid hO
    have HKK := Lib.hid hk
    have HF := Lib.hid hF
    clear hO hk hF
    by_cases hlt : i < size
    · have hd : decide ((i : Int) < (size : Int)) = true := by simp; omega
      go_wp2_with fail
      refine (own_alloc HO.out HT.out i (by rw [HF.out.1]; exact hlt) (by rw [HF.out.2]; simp) (by intro d hd; rw [HF.out.2, if_pos hd]; rfl)).mono ?_
      rintro e w2 ⟨rfl, hO⟩
      clear HO
      have HO := Lib.hid hO
      clear hO
      go_wp2_with fail
      refine (own_store HO.out i 0 v (by simp [Ar.put])).mono ?_
      rintro e w3 ⟨rfl, hO⟩
      clear HO
      have HO := Lib.hid hO
      clear hO
      go_wp2_with fail
      go_roundg (size - (i + 1))
      case measure => rw [HKK.out]; omega
      case rel =>
        refine ⟨i + 1, _, by omega, rfl, by go_num, HO.out, HF.out.1, fun c => ?_⟩
        simp only [Ar.put, Ar.step]
        have := HF.out.2 c
        by_cases hc : c = i
        · subst hc; simp
        · rw [if_neg hc, if_neg hc, this]
          by_cases h1 : c < i
          · rw [if_pos h1, if_pos (by omega)]
          · rw [if_neg h1, if_neg (by omega)]
    · have hd : decide ((i : Int) < (size : Int)) = false := by simp; omega
      obtain rfl : i = size := by omega
      have hcnt : cnt S.get i = i := (cnt_full _ _).2 fun c hc => by rw [HF.out.2, if_pos hc]; rfl
      have hsz : S.size = i := HF.out.1
      have HCS := Lib.hid (And.intro hcnt hsz)
      clear hcnt hsz HKK HF
      go_wp2_with fail
      go_loopg [14, 15] n (fun k fv iv wr => ∃ (j f : Nat) (S : Ar), j ≤ n ∧ k = n - j ∧ fv = .int .i64 f ∧ iv = .int .i64 j ∧ Own w wr b S ∧ S.size = i ∧ f + cnt S.get i = i)
      case atStart => exact ⟨0, 0, S, Nat.zero_le _, rfl, rfl, rfl, HO.out, HCS.out.2, by rw [HCS.out.1]; omega⟩
      case round =>
        clear HO HCS
        obtain ⟨j, f, S, hj, hk, rfl, rfl, hO, hS, hf⟩ := hrel
        have HO := Lib.hid hO
        have HS := Lib.hid (And.intro hS hf)
        have HKK := Lib.hid hk
        have hfi : f ≤ i := by omega
        clear hO hS hf hk
        by_cases hltn : j < n
        · have hdn : decide ((j : Int) < (n : Int)) = true := by simp; omega
          obtain ⟨ab, off, rfl, hcells⟩ := HP.out (by omega)
          have c1 := HO.out.kept.cell (hcells j hltn) (by simp)
          have hw := HWF.out j hltn
          have HW := Lib.hid hw
          clear hcells hw
          by_cases hin : zs[j]?.getD 0 < 0 ∨ S.get (zs[j]?.getD 0).toNat = none
          · have HIN := Lib.hid hin
            clear hin
            go_wp2_with fail
            refine (own_free_no HO.out _ (by simpa using HW.out.1) (by simpa using HW.out.2) HIN.out).mono ?_
            rintro e w4 ⟨rfl, rfl⟩
            go_wp2_with fail
            go_roundg (n - (j + 1))
            case measure => rw [HKK.out]; omega
            case rel => exact ⟨j + 1, f, S, by omega, rfl, rfl, by go_num, HO.out, HS.out.1, HS.out.2⟩
          · obtain ⟨c, hc⟩ := Int.eq_ofNat_of_zero_le (a := zs[j]?.getD 0) (by omega)
            obtain ⟨x, hx⟩ : ∃ x, S.get c = some x := by
              rw [hc] at hin
              cases hg : S.get c with
              | none => exact absurd (Or.inr (by simpa using hg)) hin
              | some x => exact ⟨x, rfl⟩
            have hcnt := cnt_free S.get c i (by have := HO.out.supp hx; rw [HS.out.1] at this; exact this) (by rw [hx]; rfl)
            have hle := cnt_le S.get i
            have HX := Lib.hid hx
            have HCNT := Lib.hid hcnt
            have c2 : wr.cell? ⟨ab, off + j, none⟩ = some (.int .i64 (c : Int)) := by rw [← hc]; simpa using c1
            clear hin hx hcnt hc c1
            have hfi2 : f < i ∨ i ≤ f := by omega
            go_wp2_with fail
            refine (own_free HO.out c x HX.out).mono ?_
            rintro e w4 ⟨rfl, hO⟩
            clear HO
            have HO := Lib.hid hO
            clear hO
            go_wp2_with fail
            go_roundg (n - (j + 1))
            case measure => rw [HKK.out]; omega
            case rel => exact ⟨j + 1, f + 1, _, by omega, rfl, by go_num, by go_num, HO.out, HS.out.1, by have h1 := HS.out.2; have h2 := HCNT.out; simp only [Ar.drop]; omega⟩
        · have hdn : decide ((j : Int) < (n : Int)) = false := by simp; omega
          go_wp2_with fail
          go_loopg [17, 18] f (fun k lv iv wr => ∃ (m : Nat) (last : Int) (S : Ar), m ≤ f ∧ k = f - m ∧ lv = .int .i64 last ∧ iv = .int .i64 m ∧ -1 ≤ last ∧ last < 70000 ∧ Own w wr b S ∧ S.size = i ∧ cnt S.get i + f = i + m ∧ ∀ d : Nat, (d : Int) ≤ last → (S.get d).isSome = true)
          case atStart => exact ⟨0, -1, S, Nat.zero_le _, rfl, rfl, rfl, by omega, by omega, HO.out, HS.out.1, by have := HS.out.2; omega, fun d hd => by omega⟩
          case round =>
            clear HO HS HKK
            obtain ⟨m, last, S, hm, hk, rfl, rfl, hl1, hl2, hO, hS, hc, hd⟩ := hrel
            have HO := Lib.hid hO
            have HS := Lib.hid (And.intro hS (And.intro hc hd))
            have HKK := Lib.hid hk
            clear hO hS hc hd hk
            by_cases hltf : m < f
            · have hdf : decide ((m : Int) < (f : Int)) = true := by simp; omega
              obtain ⟨c, hc1, hc2, hc3⟩ := exists_least_free S.get i (by have := HS.out.2.1; omega)
              have hcl : last < (c : Int) := by
                refine Int.lt_of_not_ge fun hge => ?_
                have := HS.out.2.2 c hge
                rw [hc2] at this; cases this
              have hdec : decide ((c : Int) ≤ last) = false := by simp; omega
              have HC := Lib.hid (And.intro hc2 hc3)
              clear hc2 hc3
              go_wp2_with fail
              refine (own_alloc HO.out HT.out c (by rw [HS.out.1]; exact hc1) HC.out.1 HC.out.2).mono ?_
              rintro e w4 ⟨rfl, hO⟩
              clear HO
              have HO := Lib.hid hO
              clear hO
              go_wp2_with fail
              refine (own_load HO.out c 0 (by simp [Ar.put])).mono ?_
              rintro e w5 ⟨rfl, hO⟩
              clear HO
              have HO := Lib.hid hO
              clear hO
              go_wp2_with fail
              go_roundg (f - (m + 1))
              case measure => rw [HKK.out]; omega
              case rel =>
                refine ⟨m + 1, c, _, by omega, rfl, rfl, by go_num, by omega, by omega, HO.out, HS.out.1, ?_, ?_⟩
                · have h1 := HS.out.2.1
                  have h2 := cnt_set S.get c 0 i hc1 HC.out.1
                  simp only [Ar.put, Ar.step]
                  omega
                · intro d hd
                  simp only [Ar.put, Ar.step]
                  by_cases e : d = c
                  · rw [if_pos e]; rfl
                  · rw [if_neg e]
                    exact HC.out.2 d (by omega)
            · have hdf : decide ((m : Int) < (f : Int)) = false := by simp; omega
              have hfull : cnt S.get i = i := by have := HS.out.2.1; omega
              have HFULL := Lib.hid hfull
              clear hfull
              go_wp2_with fail
              refine (own_alloc_full HO.out (by rw [HS.out.1]; exact (cnt_full _ _).1 HFULL.out)).mono ?_
              rintro e w4 ⟨rfl, hO⟩
              clear HO
              have HO := Lib.hid hO
              clear hO
              go_wp2_with fail
              refine (own_used HO.out).mono ?_
              rintro e w5 ⟨rfl, rfl⟩
              rw [HS.out.1, HFULL.out]
              go_wp2_with fail
              go_ret
              exact ⟨rfl, HO.out.kept⟩
theorem i64_range {a : Int} (h : (Lit.int .i64 a).wf = true) : -9223372036854775808 ≤ a ∧ a < 9223372036854775808 := by
  simp only [Lit.wf, Bool.and_eq_true, decide_eq_true_eq] at h
  have e1 : IntKind.i64.min = -9223372036854775808 := by decide
  have e2 : IntKind.i64.max = 9223372036854775807 := by decide
  omega

theorem ints_range {zs : List Int} (h : ∀ n ∈ zs, (Lit.int .i64 n).wf = true) : ∀ i, i < zs.length → -9223372036854775808 ≤ zs.getD i 0 ∧ zs.getD i 0 < 9223372036854775808 := by
  intro i hi
  rw [List.getD_eq_getElem?_getD, List.getElem?_eq_getElem hi]
  exact i64_range (h _ (List.getElem_mem hi))
end Go.Proofs.YtngmimhpeeahoaaDoor
