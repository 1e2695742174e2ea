/- pick, play, same, begins: the law's own functions walked. -/
import Derived.Test.YtbankfdgoolbdaaDkOpen
namespace Go.Proofs.Ytbankfdgoolbdaa
open Go Go.RowKit Go.Lib
set_option linter.unusedVariables false
variable {o : List Nat} {w0 w w' w1 : World} {db : Nat} {a : ADk}

theorem pick_walk (c : Int) (hc : Rng c) (w : World) : Calls Try.prog 30 #[.int .i64 c, .int .i64 9] w fun e w' => e = .returned (.int .i64 (pickN c 9 : Nat)) ∧ w' = w := by
  obtain ⟨h1, h2⟩ := hc
  by_cases h : c < 0
  · have hp : ((pickN c 9 : Nat) : Int) = (-(c + 1)) % 9 := by unfold pickN; rw [if_pos h]; omega
    have HP := Lib.hid hp
    have d1 : (c < 0) ↔ True := by simp; omega
    have HH := Lib.hid h
    clear h hp
    have e1 : IntKind.i64.wrap (c + 1) = c + 1 := IntWalk.i64_in _ (by have := HH.out; omega)
    have e2 : IntKind.i64.wrap (-(c + 1)) = -(c + 1) := IntWalk.i64_in _ (by have := HH.out; omega)
    have e3 : (-(c + 1)).tmod 9 = (-(c + 1)) % 9 := Int.tmod_eq_emod_of_nonneg (by have := HH.out; omega)
    have e4 : IntKind.i64.wrap ((-(c + 1)) % 9) = (-(c + 1)) % 9 := IntWalk.i64_in _ (by omega)
    go_enter Try.func30, Try.ntmps30
    go_wp2_with fail
    go_ret
    exact ⟨by rw [HP.out]; rfl, rfl⟩
  · have hp : ((pickN c 9 : Nat) : Int) = c % 9 := by unfold pickN; rw [if_neg h]; omega
    have HP := Lib.hid hp
    have d1 : (c < 0) ↔ False := by simp; omega
    have HH := Lib.hid h
    clear h hp
    have e3 : c.tmod 9 = c % 9 := Int.tmod_eq_emod_of_nonneg (by have := HH.out; omega)
    have e4 : IntKind.i64.wrap (c % 9) = c % 9 := IntWalk.i64_in _ (by omega)
    go_enter Try.func30, Try.ntmps30
    go_wp2_with fail
    go_ret
    exact ⟨by rw [HP.out]; rfl, rfl⟩

theorem sync_in (h : Has o w0 w (Dk db a)) (x : ByteArray) : Calls Try.prog 15 #[ptr db, .string x] w fun e w' => e = .returned (.int .i64 (a.sync x.data.toList).1) ∧ Has o w0 w' (Dk db (a.sync x.data.toList).2) := by
  obtain ⟨o', h1, _, back⟩ := h.call
  refine (sync_walk h1 x).mono ?_
  rintro e w' ⟨rfl, h2⟩
  exact ⟨rfl, back _ _ h2⟩
theorem rename_in (h : Has o w0 w (Dk db a)) (x y : ByteArray) : Calls Try.prog 31 #[ptr db, .string x, .string y] w fun e w' => e = .returned (.int .i64 (a.rename x.data.toList y.data.toList).1) ∧ Has o w0 w' (Dk db (a.rename x.data.toList y.data.toList).2) := by
  obtain ⟨o', h1, _, back⟩ := h.call
  refine (rename_walk h1 x y).mono ?_
  rintro e w' ⟨rfl, h2⟩
  exact ⟨rfl, back _ _ h2⟩
theorem delete_in (h : Has o w0 w (Dk db a)) (x : ByteArray) : Calls Try.prog 13 #[ptr db, .string x] w fun e w' => e = .returned (.int .i64 (a.delete x.data.toList).1) ∧ Has o w0 w' (Dk db (a.delete x.data.toList).2) := by
  obtain ⟨o', h1, _, back⟩ := h.call
  refine (delete_walk h1 x).mono ?_
  rintro e w' ⟨rfl, h2⟩
  exact ⟨rfl, back _ _ h2⟩
theorem syncDir_in (h : Has o w0 w (Dk db a)) : Calls Try.prog 16 #[ptr db] w fun e w' => e = .returned (.int .i64 a.syncDir.1) ∧ Has o w0 w' (Dk db a.syncDir.2) := by
  obtain ⟨o', h1, _, back⟩ := h.call
  refine (syncDir_walk h1).mono ?_
  rintro e w' ⟨rfl, h2⟩
  exact ⟨rfl, back _ _ h2⟩

set_option maxHeartbeats 4000000 in
set_option maxRecDepth 100000 in
/-- A script on a disk. -/
theorem play_walk (h : Has [] w0 w (Dk db a)) {sv : Value} {n m : Nat} {f : Nat → DOp} (hS : OpsIn w0 sv n f) (hm : m ≤ 1000) :
    Calls Try.prog 12 #[ptr db, sv, .int .i64 m] w fun e w' => e = .returned (.tuple #[]) ∧ Has [] w0 w' (Dk db (playN f (min n m) a)) := by
  obtain ⟨p, c, rfl, hnc, hcm, hfit, hcells⟩ := hS
  have HF := Lib.hid hfit
  have HC := Lib.hid hcells
  have H0 := Lib.hid h
  clear h hfit hcells
  obtain ⟨k, hk⟩ : ∃ k, min n m = k := ⟨_, rfl⟩
  rw [hk]
  have hkn : k ≤ n := by omega
  have hkm : k ≤ m := by omega
  have HK := Lib.hid hk
  clear hk
  unfold ptr at *
  go_enter Try.func12, Try.ntmps12
  go_wp2_with fail
  go_loopg [6] k (fun kk iv wr => ∃ i : Nat, i ≤ k ∧ kk = k - i ∧ iv = .int .i64 i ∧ Has [] w0 wr (Dk db (playN f i a)))
  case atStart => exact ⟨0, Nat.zero_le _, rfl, rfl, H0.out⟩
  case round =>
    obtain ⟨i, hi, hkk, rfl, hH⟩ := hrel
    have HKK := Lib.hid hkk
    have HH := Lib.hid hH
    clear hkk
    by_cases hlt : i < k
    · have d1 : ((i : Int) < (n : Int)) ↔ True := by simp; omega
      have d2 : ((i : Int) < (m : Int)) ↔ True := by simp; omega
      obtain ⟨g, off, rfl, hcs⟩ := HC.out (by omega)
      obtain ⟨c0, c1, c2, ⟨bv, c3, hb⟩, c4, c5, c6, c7⟩ := hcs i (by omega)
      have hkp := hH.keeps
      have c0 := hkp.cell c0 (by simp)
      have c1 := hkp.cell c1 (by simp)
      have c2 := hkp.cell c2 (by simp)
      have c3 := hkp.cell c3 (by simp)
      have c4 := hkp.cell c4 (by simp)
      have c5 := hkp.cell c5 (by simp)
      have c6 := hkp.cell c6 (by simp)
      have c7 := hkp.cell c7 (by simp)
      obtain ⟨bp, bc, hbv, _⟩ := hb.out
      have HB := Lib.hid hb
      subst hbv
      have hft := HF.out i (by omega)
      have HP := Lib.hid (pick_walk (f i).kind hft.kind)
      have hp9 : pickN (f i).kind 9 < 9 := by unfold pickN; split <;> omega
      obtain ⟨pk, hpk⟩ : ∃ pk, pickN (f i).kind 9 = pk := ⟨_, rfl⟩
      rw [hpk] at HP hp9
      have HA := Lib.hid (show playN f (i + 1) a = (playN f i a).actK pk (f i) by rw [← hpk]; rfl)
      generalize hq0 : (f i).kind = q0 at *
      generalize hq4 : (f i).n = q4 at *
      generalize hq5 : (f i).keep = q5 at *
      generalize hq6 : (f i).dirs = q6 at *
      generalize hq7 : (f i).tear = q7 at *
      clear hcs hb hft hpk hkp hH hq0 hq4 hq5 hq6 hq7
      have hdx : decide (i < n) = true := decide_eq_true (by omega)
      go_wp2_with fail
      refine (HP.out _).mono ?_
      rintro e w2 ⟨rfl, rfl⟩
      have hW := (HH.out).alloc (.cells #[Value.int .i64 q0, Value.string (f i).s, Value.string (f i).t, Value.slice bp (f i).b.length bc, Value.int .i64 q4, Value.int .i64 q5, Value.int .i64 q6, Value.int .i64 q7] 38)
      have H1 := Lib.hid hW
      clear hW HP
      by_cases hp0 : pk = 0
      · subst hp0
        have HQ := Lib.hid (append_out (H1.out) (f i).s HB.out)
        unfold ptr at HQ
        clear hp9
        go_wp2_with fail
        refine HQ.out.mono ?_
        rintro e w3 ⟨rfl, h3⟩
        have H3 := Lib.hid h3
        clear h3 HQ
        go_wp2_with fail
        go_roundg (k - (i + 1))
        case measure => rw [HKK.out]; omega
        case rel => exact ⟨i + 1, by omega, rfl, by go_num, by rw [HA.out]; exact H3.out⟩
      by_cases hp2 : pk = 2
      · subst hp2
        have HQ := Lib.hid (sync_in H1.out (f i).s)
        unfold ptr at HQ
        clear hp9
        go_wp2_with fail
        refine HQ.out.mono ?_
        rintro e w3 ⟨rfl, h3⟩
        have H3 := Lib.hid h3
        clear h3 HQ
        go_wp2_with fail
        go_roundg (k - (i + 1))
        case measure => rw [HKK.out]; omega
        case rel => exact ⟨i + 1, by omega, rfl, by go_num, by rw [HA.out]; exact H3.out⟩
      by_cases hp3 : pk = 3
      · subst hp3
        have HQ := Lib.hid (rename_in H1.out (f i).s (f i).t)
        unfold ptr at HQ
        clear hp9
        go_wp2_with fail
        refine HQ.out.mono ?_
        rintro e w3 ⟨rfl, h3⟩
        have H3 := Lib.hid h3
        clear h3 HQ
        go_wp2_with fail
        go_roundg (k - (i + 1))
        case measure => rw [HKK.out]; omega
        case rel => exact ⟨i + 1, by omega, rfl, by go_num, by rw [HA.out]; exact H3.out⟩
      by_cases hp4 : pk = 4
      · subst hp4
        have HQ := Lib.hid (delete_in H1.out (f i).s)
        unfold ptr at HQ
        clear hp9
        go_wp2_with fail
        refine HQ.out.mono ?_
        rintro e w3 ⟨rfl, h3⟩
        have H3 := Lib.hid h3
        clear h3 HQ
        go_wp2_with fail
        go_roundg (k - (i + 1))
        case measure => rw [HKK.out]; omega
        case rel => exact ⟨i + 1, by omega, rfl, by go_num, by rw [HA.out]; exact H3.out⟩
      by_cases hp5 : pk = 5
      · subst hp5
        have HQ := Lib.hid (syncDir_in H1.out)
        unfold ptr at HQ
        clear hp9
        go_wp2_with fail
        refine HQ.out.mono ?_
        rintro e w3 ⟨rfl, h3⟩
        have H3 := Lib.hid h3
        clear h3 HQ
        go_wp2_with fail
        go_roundg (k - (i + 1))
        case measure => rw [HKK.out]; omega
        case rel => exact ⟨i + 1, by omega, rfl, by go_num, by rw [HA.out]; exact H3.out⟩
      have HAA := Lib.hid (HA.out.trans (show (playN f i a).actK pk (f i) = playN f i a by unfold ADk.actK; split <;> first | omega | rfl))
      have e0 : ((pk : Int) == 0) = false := by simp; omega
      have e2 : ((pk : Int) == 2) = false := by simp; omega
      have e3 : ((pk : Int) == 3) = false := by simp; omega
      have e4 : ((pk : Int) == 4) = false := by simp; omega
      have e5 : ((pk : Int) == 5) = false := by simp; omega
      go_wp2_with fail
      go_roundg (k - (i + 1))
      case measure => rw [HKK.out]; omega
      case rel => exact ⟨i + 1, by omega, rfl, by go_num, by rw [HAA.out]; exact H1.out⟩
    · obtain rfl : i = k := by omega
      have HHH := Lib.hid hH
      clear hH
      by_cases hn : i < n
      · have d1 : ((i : Int) < (n : Int)) ↔ True := by simp; omega
        have d2 : ((i : Int) < (m : Int)) ↔ False := by have := HK.out; simp; omega
        go_wp2_with fail
        go_end0
        exact ⟨rfl, HHH.out⟩
      · have d1 : ((i : Int) < (n : Int)) ↔ False := by simp; omega
        go_wp2_with fail
        go_end0
        exact ⟨rfl, HHH.out⟩
/-- Names that can be read. -/
def NamesIn (w : World) (v : Value) (l : List Nm) : Prop :=
  ∃ p c, v = .slice p l.length c ∧ l.length ≤ c ∧ ∀ i u, l[i]? = some u → ∃ g, p = some ⟨g, 0, none⟩ ∧ g < w.heap.size ∧ w.cell? ⟨g, i, none⟩ = some (.string ⟨u.toArray⟩)

theorem NamesIn.kept {l : List Nm} {v : Value} {own : List Nat} (h : NamesIn w v l) (k : Kept own w w') (ho : ∀ x ∈ own, w.heap.size ≤ x) : NamesIn w' v l := by
  obtain ⟨p, c, h1, h2, h3⟩ := h
  refine ⟨p, c, h1, h2, fun i u hu => ?_⟩
  obtain ⟨g, e, hg, hc⟩ := h3 i u hu
  exact ⟨g, e, Nat.lt_of_lt_of_le hg k.size, k.cell hc fun hm => by have := ho _ hm; omega⟩

theorem namesIn {l : List Nm} {v : Value} (h : Has o w0 w (.row 9 1 v l.length (l.map encStr))) : NamesIn w v l := by
  obtain ⟨_, ⟨hr, _⟩, _⟩ := h
  obtain ⟨p, c, rfl, hn, hc⟩ := rowSliceLe hr
  refine ⟨p, c, rfl, hn, fun i u hu => ?_⟩
  have hi : i < l.length := (List.getElem?_eq_some_iff.1 hu).1
  exact hc i _ hi (by rw [List.getElem?_map, hu]; rfl)

set_option maxHeartbeats 2000000 in
set_option maxRecDepth 100000 in
/-- The same names. -/
theorem same_walk {va vb : Value} {l : List Nm} (ha : NamesIn w va l) (hb : NamesIn w vb l) (hl : l.length ≤ 1000) :
    Calls Try.prog 20 #[va, vb] w fun e w' => e = .returned (.bool true) ∧ Kept [] w w' := by
  obtain ⟨pa, ca, rfl, hca, ha⟩ := ha
  obtain ⟨pb, cb, rfl, hcb, hb⟩ := hb
  have HA := Lib.hid ha
  have HB := Lib.hid hb
  clear ha hb
  obtain ⟨n, hn⟩ : ∃ n, l.length = n := ⟨_, rfl⟩
  rw [hn] at hl hca hcb ⊢
  have HN := Lib.hid hn
  clear hn
  go_enter Try.func20, Try.ntmps20
  go_wp2_with fail
  go_loopg [5] n (fun kk iv wr => ∃ i : Nat, i ≤ n ∧ kk = n - i ∧ iv = .int .i64 i ∧ Kept [] w wr)
  case atStart => exact ⟨0, Nat.zero_le _, rfl, rfl, Kept.refl _ _⟩
  case round =>
    obtain ⟨i, hi, hkk, rfl, hK⟩ := hrel
    have HKK := Lib.hid hkk
    clear hkk
    by_cases hlt : i < n
    · have d1 : ((i : Int) < (n : Int)) ↔ True := by simp; omega
      have hil : i < l.length := by have := HN.out; omega
      obtain ⟨g, rfl, _, c1⟩ := HA.out i _ (List.getElem?_eq_getElem hil)
      obtain ⟨g2, rfl, _, c2⟩ := HB.out i _ (List.getElem?_eq_getElem hil)
      have c1 : wr.drew.cell? ⟨g, i, none⟩ = _ := hK.drew.cell c1 (by simp)
      have c2 : wr.drew.cell? ⟨g2, i, none⟩ = _ := hK.drew.cell c2 (by simp)
      generalize (⟨(l[i]'hil).toArray⟩ : ByteArray) = x at *
      have hd : decide (i < n) = true := decide_eq_true hlt
      have hda : i < ca := by omega
      have hdb : i < cb := by omega
      have HKE := Lib.hid hK.drew
      clear hK hil
      go_wp2_with fail
      go_region
      go_wp2_with fail
      go_roundg (n - (i + 1))
      case measure => rw [HKK.out]; omega
      case rel => exact ⟨i + 1, by omega, rfl, by go_num, HKE.out⟩
    · have d1 : ((i : Int) < (n : Int)) ↔ False := by simp; omega
      obtain rfl : i = n := by omega
      have HKE := Lib.hid hK
      clear hK
      go_wp2_with fail
      go_ret
      exact ⟨rfl, HKE.out⟩

/-- A text begins another one. -/
theorem begins_walk {x y : List UInt8} (h : ∃ z, y = x ++ z) (hy : y.length ≤ 262144) (w : World) :
    Calls Try.prog 21 #[.string ⟨x.toArray⟩, .string ⟨y.toArray⟩] w fun e w' => e = .returned (.bool true) ∧ w' = w := by
  obtain ⟨z, rfl⟩ := h
  have hx : (⟨x.toArray⟩ : ByteArray).size = x.length := by simp [ByteArray.size]
  have hxy : (⟨(x ++ z).toArray⟩ : ByteArray).size = (x ++ z).length := by simp [ByteArray.size]
  have hle : x.length ≤ (x ++ z).length := by simp
  have hex : ((⟨(x ++ z).toArray⟩ : ByteArray).extract 0 (⟨x.toArray⟩ : ByteArray).size).toList = (⟨x.toArray⟩ : ByteArray).toList := by
    rw [ByteArray.toList_eq, ByteArray.toList_eq, hx, ByteArray.data_extract]
    simp
  generalize hX : (⟨x.toArray⟩ : ByteArray) = X at *
  generalize hY : (⟨(x ++ z).toArray⟩ : ByteArray) = Y at *
  have d1 : ((X.size : Int) ≤ (Y.size : Int)) ↔ True := by rw [hx, hxy]; simp; omega
  have HE := Lib.hid hX
  have HE2 := Lib.hid hY
  have hm : X.size ≤ 262144 := by omega
  have hm2 : X.size ≤ Y.size := by omega
  have HEX := Lib.hid hex
  clear hX hY hx hxy hle hy hex
  go_enter Try.func21, Try.ntmps21
  go_wp2_with fail
  go_ret
  refine ⟨?_, rfl⟩
  show Ending.returned (Value.bool ((Y.extract 0 X.size).toList == X.toList)) = _
  rw [HEX.out]
  simp
end Go.Proofs.Ytbankfdgoolbdaa
