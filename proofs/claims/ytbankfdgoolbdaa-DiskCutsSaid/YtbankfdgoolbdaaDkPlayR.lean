/- A script on a disk that lies beside another part. -/
import Derived.Test.YtbankfdgoolbdaaDkWalks
namespace Go.Proofs.Ytbankfdgoolbdaa
open Go Go.RowKit Go.Lib
set_option linter.unusedVariables false
variable {o : List Nat} {w0 w w' w1 : World} {db : Nat} {a : ADk} {R : Part}

theorem append_sep (h : Has [] w0 w ((Dk db a).sep R)) (x : ByteArray) {v : Value} {bs : List UInt8} (hB : BytesX w0 v bs) :
    Calls Try.prog 14 #[ptr db, .string x, v] w fun e w' => e = .returned (.int .i64 (a.append x.data.toList bs).1) ∧ Has [] w0 w' ((Dk db (a.append x.data.toList bs).2).sep R) := by
  have hk := h.keeps
  obtain ⟨o', h1, hs, _, back⟩ := h.leftB
  refine (append_walk h1 x v bs fun w' k' => ?_).mono ?_
  · exact hB.kept (own := o') ((hk.mono fun _ _ h => by simp at h).tr k') fun y hy => (hs y hy).resolve_left (by simp)
  · rintro e w' ⟨rfl, h5⟩
    exact ⟨rfl, back _ _ h5⟩
theorem sync_sep (h : Has o w0 w ((Dk db a).sep R)) (x : ByteArray) : Calls Try.prog 15 #[ptr db, .string x] w fun e w' => e = .returned (.int .i64 (a.sync x.data.toList).1) ∧ Has o w0 w' ((Dk db (a.sync x.data.toList).2).sep R) := by
  obtain ⟨o', h1, _, _, back⟩ := h.left
  refine (sync_walk h1 x).mono ?_
  rintro e w' ⟨rfl, h2⟩
  exact ⟨rfl, back _ _ h2⟩
theorem rename_sep (h : Has o w0 w ((Dk db a).sep R)) (x y : ByteArray) : Calls Try.prog 31 #[ptr db, .string x, .string y] w fun e w' => e = .returned (.int .i64 (a.rename x.data.toList y.data.toList).1) ∧ Has o w0 w' ((Dk db (a.rename x.data.toList y.data.toList).2).sep R) := by
  obtain ⟨o', h1, _, _, back⟩ := h.left
  refine (rename_walk h1 x y).mono ?_
  rintro e w' ⟨rfl, h2⟩
  exact ⟨rfl, back _ _ h2⟩
theorem delete_sep (h : Has o w0 w ((Dk db a).sep R)) (x : ByteArray) : Calls Try.prog 13 #[ptr db, .string x] w fun e w' => e = .returned (.int .i64 (a.delete x.data.toList).1) ∧ Has o w0 w' ((Dk db (a.delete x.data.toList).2).sep R) := by
  obtain ⟨o', h1, _, _, back⟩ := h.left
  refine (delete_walk h1 x).mono ?_
  rintro e w' ⟨rfl, h2⟩
  exact ⟨rfl, back _ _ h2⟩
theorem syncDir_sep (h : Has o w0 w ((Dk db a).sep R))  : Calls Try.prog 16 #[ptr db] w fun e w' => e = .returned (.int .i64 (a.syncDir).1) ∧ Has o w0 w' ((Dk db (a.syncDir).2).sep R) := by
  obtain ⟨o', h1, _, _, back⟩ := h.left
  refine (syncDir_walk h1 ).mono ?_
  rintro e w' ⟨rfl, h2⟩
  exact ⟨rfl, back _ _ h2⟩

set_option maxHeartbeats 4000000 in
set_option maxRecDepth 100000 in
/-- A script on a disk. -/
theorem play_sep (h : Has [] w0 w ((Dk db a).sep R)) {sv : Value} {n m : Nat} {f : Nat → DOp} (hS : OpsIn w0 sv n f) (hm : m ≤ 1000) :
    Calls Try.prog 12 #[ptr db, sv, .int .i64 m] w fun e w' => e = .returned (.tuple #[]) ∧ Has [] w0 w' ((Dk db (playN f (min n m) a)).sep R) := by
  obtain ⟨p, c, rfl, hnc, hcm, hfit, hcells⟩ := hS
  have HF := Lib.hid hfit
  have HC := Lib.hid hcells
  have H0 := Lib.hid h
  clear h hfit hcells
  obtain ⟨k, hk⟩ : ∃ k, min n m = k := ⟨_, rfl⟩
  rw [hk]
  have hkn : k ≤ n := by omega
  have hkm : k ≤ m := by omega
  have HK := Lib.hid hk
  clear hk
  unfold ptr at *
  go_enter Try.func12, Try.ntmps12
  go_wp2_with fail
  go_loopg [6] k (fun kk iv wr => ∃ i : Nat, i ≤ k ∧ kk = k - i ∧ iv = .int .i64 i ∧ Has [] w0 wr ((Dk db (playN f i a)).sep R))
  case atStart => exact ⟨0, Nat.zero_le _, rfl, rfl, H0.out⟩
  case round =>
    obtain ⟨i, hi, hkk, rfl, hH⟩ := hrel
    have HKK := Lib.hid hkk
    have HH := Lib.hid hH
    clear hkk
    by_cases hlt : i < k
    · have d1 : ((i : Int) < (n : Int)) ↔ True := by simp; omega
      have d2 : ((i : Int) < (m : Int)) ↔ True := by simp; omega
      obtain ⟨g, off, rfl, hcs⟩ := HC.out (by omega)
      obtain ⟨c0, c1, c2, ⟨bv, c3, hb⟩, c4, c5, c6, c7⟩ := hcs i (by omega)
      have hkp := hH.keeps
      have c0 := hkp.cell c0 (by simp)
      have c1 := hkp.cell c1 (by simp)
      have c2 := hkp.cell c2 (by simp)
      have c3 := hkp.cell c3 (by simp)
      have c4 := hkp.cell c4 (by simp)
      have c5 := hkp.cell c5 (by simp)
      have c6 := hkp.cell c6 (by simp)
      have c7 := hkp.cell c7 (by simp)
      obtain ⟨bp, bc, hbv, _⟩ := hb.out
      have HB := Lib.hid hb
      subst hbv
      have hft := HF.out i (by omega)
      have HP := Lib.hid (pick_walk (f i).kind hft.kind)
      have hp9 : pickN (f i).kind 9 < 9 := by unfold pickN; split <;> omega
      obtain ⟨pk, hpk⟩ : ∃ pk, pickN (f i).kind 9 = pk := ⟨_, rfl⟩
      rw [hpk] at HP hp9
      have HA := Lib.hid (show playN f (i + 1) a = (playN f i a).actK pk (f i) by rw [← hpk]; rfl)
      generalize hq0 : (f i).kind = q0 at *
      generalize hq4 : (f i).n = q4 at *
      generalize hq5 : (f i).keep = q5 at *
      generalize hq6 : (f i).dirs = q6 at *
      generalize hq7 : (f i).tear = q7 at *
      clear hcs hb hft hpk hkp hH hq0 hq4 hq5 hq6 hq7
      have hdx : decide (i < n) = true := decide_eq_true (by omega)
      go_wp2_with fail
      refine (HP.out _).mono ?_
      rintro e w2 ⟨rfl, rfl⟩
      have hW := (HH.out).alloc (.cells #[Value.int .i64 q0, Value.string (f i).s, Value.string (f i).t, Value.slice bp (f i).b.length bc, Value.int .i64 q4, Value.int .i64 q5, Value.int .i64 q6, Value.int .i64 q7] 38)
      have H1 := Lib.hid hW
      clear hW HP
      by_cases hp0 : pk = 0
      · subst hp0
        have HQ := Lib.hid (append_sep (H1.out) (f i).s HB.out)
        unfold ptr at HQ
        clear hp9
        go_wp2_with fail
        refine HQ.out.mono ?_
        rintro e w3 ⟨rfl, h3⟩
        have H3 := Lib.hid h3
        clear h3 HQ
        go_wp2_with fail
        go_roundg (k - (i + 1))
        case measure => rw [HKK.out]; omega
        case rel => exact ⟨i + 1, by omega, rfl, by go_num, by rw [HA.out]; exact H3.out⟩
      by_cases hp2 : pk = 2
      · subst hp2
        have HQ := Lib.hid (sync_sep H1.out (f i).s)
        unfold ptr at HQ
        clear hp9
        go_wp2_with fail
        refine HQ.out.mono ?_
        rintro e w3 ⟨rfl, h3⟩
        have H3 := Lib.hid h3
        clear h3 HQ
        go_wp2_with fail
        go_roundg (k - (i + 1))
        case measure => rw [HKK.out]; omega
        case rel => exact ⟨i + 1, by omega, rfl, by go_num, by rw [HA.out]; exact H3.out⟩
      by_cases hp3 : pk = 3
      · subst hp3
        have HQ := Lib.hid (rename_sep H1.out (f i).s (f i).t)
        unfold ptr at HQ
        clear hp9
        go_wp2_with fail
        refine HQ.out.mono ?_
        rintro e w3 ⟨rfl, h3⟩
        have H3 := Lib.hid h3
        clear h3 HQ
        go_wp2_with fail
        go_roundg (k - (i + 1))
        case measure => rw [HKK.out]; omega
        case rel => exact ⟨i + 1, by omega, rfl, by go_num, by rw [HA.out]; exact H3.out⟩
      by_cases hp4 : pk = 4
      · subst hp4
        have HQ := Lib.hid (delete_sep H1.out (f i).s)
        unfold ptr at HQ
        clear hp9
        go_wp2_with fail
        refine HQ.out.mono ?_
        rintro e w3 ⟨rfl, h3⟩
        have H3 := Lib.hid h3
        clear h3 HQ
        go_wp2_with fail
        go_roundg (k - (i + 1))
        case measure => rw [HKK.out]; omega
        case rel => exact ⟨i + 1, by omega, rfl, by go_num, by rw [HA.out]; exact H3.out⟩
      by_cases hp5 : pk = 5
      · subst hp5
        have HQ := Lib.hid (syncDir_sep H1.out)
        unfold ptr at HQ
        clear hp9
        go_wp2_with fail
        refine HQ.out.mono ?_
        rintro e w3 ⟨rfl, h3⟩
        have H3 := Lib.hid h3
        clear h3 HQ
        go_wp2_with fail
        go_roundg (k - (i + 1))
        case measure => rw [HKK.out]; omega
        case rel => exact ⟨i + 1, by omega, rfl, by go_num, by rw [HA.out]; exact H3.out⟩
      have HAA := Lib.hid (HA.out.trans (show (playN f i a).actK pk (f i) = playN f i a by unfold ADk.actK; split <;> first | omega | rfl))
      have e0 : ((pk : Int) == 0) = false := by simp; omega
      have e2 : ((pk : Int) == 2) = false := by simp; omega
      have e3 : ((pk : Int) == 3) = false := by simp; omega
      have e4 : ((pk : Int) == 4) = false := by simp; omega
      have e5 : ((pk : Int) == 5) = false := by simp; omega
      go_wp2_with fail
      go_roundg (k - (i + 1))
      case measure => rw [HKK.out]; omega
      case rel => exact ⟨i + 1, by omega, rfl, by go_num, by rw [HAA.out]; exact H1.out⟩
    · obtain rfl : i = k := by omega
      have HHH := Lib.hid hH
      clear hH
      by_cases hn : i < n
      · have d1 : ((i : Int) < (n : Int)) ↔ True := by simp; omega
        have d2 : ((i : Int) < (m : Int)) ↔ False := by have := HK.out; simp; omega
        go_wp2_with fail
        go_end0
        exact ⟨rfl, HHH.out⟩
      · have d1 : ((i : Int) < (n : Int)) ↔ False := by simp; omega
        go_wp2_with fail
        go_end0
        exact ⟨rfl, HHH.out⟩
end Go.Proofs.Ytbankfdgoolbdaa
