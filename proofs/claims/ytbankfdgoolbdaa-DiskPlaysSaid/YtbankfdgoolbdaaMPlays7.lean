/- pick, play, same, begins: the law's own functions walked.
The reference's lists of names: plain, and in memory; find walked.
The reference's without and with walked.
The reference's changed walked. -/
import Derived.Test.YtbankfdgoolbdaaMPlays6
import Derived.Laws.Cover1
import Derived.Deep.RegionHeld3
namespace Go.Proofs.Ytbankfdgoolbdaa
open Go Go.RowKit Go.Lib
set_option linter.unusedVariables false
variable {o : List Nat} {w0 w w' w1 : World} {db : Nat} {a : ADk}

theorem pick_walk (c : Int) (hc : Rng c) (w : World) : Calls Try.prog 30 #[.int .i64 c, .int .i64 9] w fun e w' => e = .returned (.int .i64 (pickN c 9 : Nat)) ∧ w' = w := by
  obtain ⟨h1, h2⟩ := hc
  by_cases h : c < 0
  · have hp : ((pickN c 9 : Nat) : Int) = (-(c + 1)) % 9 := by unfold pickN; rw [if_pos h]; omega
    have HP := Lib.hid hp
    have d1 : (c < 0) ↔ True := by simp; omega
    have HH := Lib.hid h
    clear h hp
    have e1 : IntKind.i64.wrap (c + 1) = c + 1 := IntWalk.i64_in _ (by have := HH.out; omega)
    have e2 : IntKind.i64.wrap (-(c + 1)) = -(c + 1) := IntWalk.i64_in _ (by have := HH.out; omega)
    have e3 : (-(c + 1)).tmod 9 = (-(c + 1)) % 9 := Int.tmod_eq_emod_of_nonneg (by have := HH.out; omega)
    have e4 : IntKind.i64.wrap ((-(c + 1)) % 9) = (-(c + 1)) % 9 := IntWalk.i64_in _ (by omega)
    go_enter Try.func30, Try.ntmps30
    go_wp2_with fail
    go_ret
    exact ⟨by rw [HP.out]; rfl, rfl⟩
  · have hp : ((pickN c 9 : Nat) : Int) = c % 9 := by unfold pickN; rw [if_neg h]; omega
    have HP := Lib.hid hp
    have d1 : (c < 0) ↔ False := by simp; omega
    have HH := Lib.hid h
    clear h hp
    have e3 : c.tmod 9 = c % 9 := Int.tmod_eq_emod_of_nonneg (by have := HH.out; omega)
    have e4 : IntKind.i64.wrap (c % 9) = c % 9 := IntWalk.i64_in _ (by omega)
    go_enter Try.func30, Try.ntmps30
    go_wp2_with fail
    go_ret
    exact ⟨by rw [HP.out]; rfl, rfl⟩

theorem sync_in (h : Has o w0 w (Dk db a)) (x : ByteArray) : Calls Try.prog 15 #[ptr db, .string x] w fun e w' => e = .returned (.int .i64 (a.sync x.data.toList).1) ∧ Has o w0 w' (Dk db (a.sync x.data.toList).2) := by
  obtain ⟨o', h1, _, back⟩ := h.call
  refine (sync_walk h1 x).mono ?_
  rintro e w' ⟨rfl, h2⟩
  exact ⟨rfl, back _ _ h2⟩
theorem rename_in (h : Has o w0 w (Dk db a)) (x y : ByteArray) : Calls Try.prog 31 #[ptr db, .string x, .string y] w fun e w' => e = .returned (.int .i64 (a.rename x.data.toList y.data.toList).1) ∧ Has o w0 w' (Dk db (a.rename x.data.toList y.data.toList).2) := by
  obtain ⟨o', h1, _, back⟩ := h.call
  refine (rename_walk h1 x y).mono ?_
  rintro e w' ⟨rfl, h2⟩
  exact ⟨rfl, back _ _ h2⟩
theorem delete_in (h : Has o w0 w (Dk db a)) (x : ByteArray) : Calls Try.prog 13 #[ptr db, .string x] w fun e w' => e = .returned (.int .i64 (a.delete x.data.toList).1) ∧ Has o w0 w' (Dk db (a.delete x.data.toList).2) := by
  obtain ⟨o', h1, _, back⟩ := h.call
  refine (delete_walk h1 x).mono ?_
  rintro e w' ⟨rfl, h2⟩
  exact ⟨rfl, back _ _ h2⟩
theorem syncDir_in (h : Has o w0 w (Dk db a)) : Calls Try.prog 16 #[ptr db] w fun e w' => e = .returned (.int .i64 a.syncDir.1) ∧ Has o w0 w' (Dk db a.syncDir.2) := by
  obtain ⟨o', h1, _, back⟩ := h.call
  refine (syncDir_walk h1).mono ?_
  rintro e w' ⟨rfl, h2⟩
  exact ⟨rfl, back _ _ h2⟩

set_option maxHeartbeats 4000000 in
set_option maxRecDepth 100000 in
/-- A script on a disk. -/
theorem play_walk (h : Has [] w0 w (Dk db a)) {sv : Value} {n m : Nat} {f : Nat → DOp} (hS : OpsIn w0 sv n f) (hm : m ≤ 1000) :
    Calls Try.prog 12 #[ptr db, sv, .int .i64 m] w fun e w' => e = .returned (.tuple #[]) ∧ Has [] w0 w' (Dk db (playN f (min n m) a)) := by
  obtain ⟨p, c, rfl, hnc, hcm, hfit, hcells⟩ := hS
  have HF := Lib.hid hfit
  have HC := Lib.hid hcells
  have H0 := Lib.hid h
  clear h hfit hcells
  obtain ⟨k, hk⟩ : ∃ k, min n m = k := ⟨_, rfl⟩
  rw [hk]
  have hkn : k ≤ n := by omega
  have hkm : k ≤ m := by omega
  have HK := Lib.hid hk
  clear hk
  unfold ptr at *
  go_enter Try.func12, Try.ntmps12
  go_wp2_with fail
  go_loopg [6] k (fun kk iv wr => ∃ i : Nat, i ≤ k ∧ kk = k - i ∧ iv = .int .i64 i ∧ Has [] w0 wr (Dk db (playN f i a)))
  case atStart => exact ⟨0, Nat.zero_le _, rfl, rfl, H0.out⟩
  case round =>
    obtain ⟨i, hi, hkk, rfl, hH⟩ := hrel
    have HKK := Lib.hid hkk
    have HH := Lib.hid hH
    clear hkk
    by_cases hlt : i < k
    · have d1 : ((i : Int) < (n : Int)) ↔ True := by simp; omega
      have d2 : ((i : Int) < (m : Int)) ↔ True := by simp; omega
      obtain ⟨g, off, rfl, hcs⟩ := HC.out (by omega)
      obtain ⟨c0, c1, c2, ⟨bv, c3, hb⟩, c4, c5, c6, c7⟩ := hcs i (by omega)
      have hkp := hH.keeps
      have c0 := hkp.cell c0 (by simp)
      have c1 := hkp.cell c1 (by simp)
      have c2 := hkp.cell c2 (by simp)
      have c3 := hkp.cell c3 (by simp)
      have c4 := hkp.cell c4 (by simp)
      have c5 := hkp.cell c5 (by simp)
      have c6 := hkp.cell c6 (by simp)
      have c7 := hkp.cell c7 (by simp)
      obtain ⟨bp, bc, hbv, _⟩ := hb.out
      have HB := Lib.hid hb
      subst hbv
      have hft := HF.out i (by omega)
      have HP := Lib.hid (pick_walk (f i).kind hft.kind)
      have hp9 : pickN (f i).kind 9 < 9 := by unfold pickN; split <;> omega
      obtain ⟨pk, hpk⟩ : ∃ pk, pickN (f i).kind 9 = pk := ⟨_, rfl⟩
      rw [hpk] at HP hp9
      have HA := Lib.hid (show playN f (i + 1) a = (playN f i a).actK pk (f i) by rw [← hpk]; rfl)
      generalize hq0 : (f i).kind = q0 at *
      generalize hq4 : (f i).n = q4 at *
      generalize hq5 : (f i).keep = q5 at *
      generalize hq6 : (f i).dirs = q6 at *
      generalize hq7 : (f i).tear = q7 at *
      clear hcs hb hft hpk hkp hH hq0 hq4 hq5 hq6 hq7
      have hdx : decide (i < n) = true := decide_eq_true (by omega)
      go_wp2_with fail
      refine (HP.out _).mono ?_
      rintro e w2 ⟨rfl, rfl⟩
      have hW := (HH.out).alloc (.cells #[Value.int .i64 q0, Value.string (f i).s, Value.string (f i).t, Value.slice bp (f i).b.length bc, Value.int .i64 q4, Value.int .i64 q5, Value.int .i64 q6, Value.int .i64 q7] 38)
      have H1 := Lib.hid hW
      clear hW HP
      by_cases hp0 : pk = 0
      · subst hp0
        have HQ := Lib.hid (append_out (H1.out) (f i).s HB.out)
        unfold ptr at HQ
        clear hp9
        go_wp2_with fail
        refine HQ.out.mono ?_
        rintro e w3 ⟨rfl, h3⟩
        have H3 := Lib.hid h3
        clear h3 HQ
        go_wp2_with fail
        go_roundg (k - (i + 1))
        case measure => rw [HKK.out]; omega
        case rel => exact ⟨i + 1, by omega, rfl, by go_num, by rw [HA.out]; exact H3.out⟩
      by_cases hp2 : pk = 2
      · subst hp2
        have HQ := Lib.hid (sync_in H1.out (f i).s)
        unfold ptr at HQ
        clear hp9
        go_wp2_with fail
        refine HQ.out.mono ?_
        rintro e w3 ⟨rfl, h3⟩
        have H3 := Lib.hid h3
        clear h3 HQ
        go_wp2_with fail
        go_roundg (k - (i + 1))
        case measure => rw [HKK.out]; omega
        case rel => exact ⟨i + 1, by omega, rfl, by go_num, by rw [HA.out]; exact H3.out⟩
      by_cases hp3 : pk = 3
      · subst hp3
        have HQ := Lib.hid (rename_in H1.out (f i).s (f i).t)
        unfold ptr at HQ
        clear hp9
        go_wp2_with fail
        refine HQ.out.mono ?_
        rintro e w3 ⟨rfl, h3⟩
        have H3 := Lib.hid h3
        clear h3 HQ
        go_wp2_with fail
        go_roundg (k - (i + 1))
        case measure => rw [HKK.out]; omega
        case rel => exact ⟨i + 1, by omega, rfl, by go_num, by rw [HA.out]; exact H3.out⟩
      by_cases hp4 : pk = 4
      · subst hp4
        have HQ := Lib.hid (delete_in H1.out (f i).s)
        unfold ptr at HQ
        clear hp9
        go_wp2_with fail
        refine HQ.out.mono ?_
        rintro e w3 ⟨rfl, h3⟩
        have H3 := Lib.hid h3
        clear h3 HQ
        go_wp2_with fail
        go_roundg (k - (i + 1))
        case measure => rw [HKK.out]; omega
        case rel => exact ⟨i + 1, by omega, rfl, by go_num, by rw [HA.out]; exact H3.out⟩
      by_cases hp5 : pk = 5
      · subst hp5
        have HQ := Lib.hid (syncDir_in H1.out)
        unfold ptr at HQ
        clear hp9
        go_wp2_with fail
        refine HQ.out.mono ?_
        rintro e w3 ⟨rfl, h3⟩
        have H3 := Lib.hid h3
        clear h3 HQ
        go_wp2_with fail
        go_roundg (k - (i + 1))
        case measure => rw [HKK.out]; omega
        case rel => exact ⟨i + 1, by omega, rfl, by go_num, by rw [HA.out]; exact H3.out⟩
      have HAA := Lib.hid (HA.out.trans (show (playN f i a).actK pk (f i) = playN f i a by unfold ADk.actK; split <;> first | omega | rfl))
      have e0 : ((pk : Int) == 0) = false := by simp; omega
      have e2 : ((pk : Int) == 2) = false := by simp; omega
      have e3 : ((pk : Int) == 3) = false := by simp; omega
      have e4 : ((pk : Int) == 4) = false := by simp; omega
      have e5 : ((pk : Int) == 5) = false := by simp; omega
      go_wp2_with fail
      go_roundg (k - (i + 1))
      case measure => rw [HKK.out]; omega
      case rel => exact ⟨i + 1, by omega, rfl, by go_num, by rw [HAA.out]; exact H1.out⟩
    · obtain rfl : i = k := by omega
      have HHH := Lib.hid hH
      clear hH
      by_cases hn : i < n
      · have d1 : ((i : Int) < (n : Int)) ↔ True := by simp; omega
        have d2 : ((i : Int) < (m : Int)) ↔ False := by have := HK.out; simp; omega
        go_wp2_with fail
        go_end0
        exact ⟨rfl, HHH.out⟩
      · have d1 : ((i : Int) < (n : Int)) ↔ False := by simp; omega
        go_wp2_with fail
        go_end0
        exact ⟨rfl, HHH.out⟩
/-- Names that can be read. -/
def NamesIn (w : World) (v : Value) (l : List Nm) : Prop :=
  ∃ p c, v = .slice p l.length c ∧ l.length ≤ c ∧ ∀ i u, l[i]? = some u → ∃ g, p = some ⟨g, 0, none⟩ ∧ g < w.heap.size ∧ w.cell? ⟨g, i, none⟩ = some (.string ⟨u.toArray⟩)

theorem NamesIn.kept {l : List Nm} {v : Value} {own : List Nat} (h : NamesIn w v l) (k : Kept own w w') (ho : ∀ x ∈ own, w.heap.size ≤ x) : NamesIn w' v l := by
  obtain ⟨p, c, h1, h2, h3⟩ := h
  refine ⟨p, c, h1, h2, fun i u hu => ?_⟩
  obtain ⟨g, e, hg, hc⟩ := h3 i u hu
  exact ⟨g, e, Nat.lt_of_lt_of_le hg k.size, k.cell hc fun hm => by have := ho _ hm; omega⟩

theorem namesIn {l : List Nm} {v : Value} (h : Has o w0 w (.row 9 1 v l.length (l.map encStr))) : NamesIn w v l := by
  obtain ⟨_, ⟨hr, _⟩, _⟩ := h
  obtain ⟨p, c, rfl, hn, hc⟩ := rowSliceLe hr
  refine ⟨p, c, rfl, hn, fun i u hu => ?_⟩
  have hi : i < l.length := (List.getElem?_eq_some_iff.1 hu).1
  exact hc i _ hi (by rw [List.getElem?_map, hu]; rfl)

set_option maxHeartbeats 2000000 in
set_option maxRecDepth 100000 in
/-- The same names. -/
theorem same_walk {va vb : Value} {l : List Nm} (ha : NamesIn w va l) (hb : NamesIn w vb l) (hl : l.length ≤ 1000) :
    Calls Try.prog 20 #[va, vb] w fun e w' => e = .returned (.bool true) ∧ Kept [] w w' := by
  obtain ⟨pa, ca, rfl, hca, ha⟩ := ha
  obtain ⟨pb, cb, rfl, hcb, hb⟩ := hb
  have HA := Lib.hid ha
  have HB := Lib.hid hb
  clear ha hb
  obtain ⟨n, hn⟩ : ∃ n, l.length = n := ⟨_, rfl⟩
  rw [hn] at hl hca hcb ⊢
  have HN := Lib.hid hn
  clear hn
  go_enter Try.func20, Try.ntmps20
  go_wp2_with fail
  go_loopg [5] n (fun kk iv wr => ∃ i : Nat, i ≤ n ∧ kk = n - i ∧ iv = .int .i64 i ∧ Kept [] w wr)
  case atStart => exact ⟨0, Nat.zero_le _, rfl, rfl, Kept.refl _ _⟩
  case round =>
    obtain ⟨i, hi, hkk, rfl, hK⟩ := hrel
    have HKK := Lib.hid hkk
    clear hkk
    by_cases hlt : i < n
    · have d1 : ((i : Int) < (n : Int)) ↔ True := by simp; omega
      have hil : i < l.length := by have := HN.out; omega
      obtain ⟨g, rfl, _, c1⟩ := HA.out i _ (List.getElem?_eq_getElem hil)
      obtain ⟨g2, rfl, _, c2⟩ := HB.out i _ (List.getElem?_eq_getElem hil)
      have c1 : wr.drew.cell? ⟨g, i, none⟩ = _ := hK.drew.cell c1 (by simp)
      have c2 : wr.drew.cell? ⟨g2, i, none⟩ = _ := hK.drew.cell c2 (by simp)
      generalize (⟨(l[i]'hil).toArray⟩ : ByteArray) = x at *
      have hd : decide (i < n) = true := decide_eq_true hlt
      have hda : i < ca := by omega
      have hdb : i < cb := by omega
      have HKE := Lib.hid hK.drew
      clear hK hil
      go_wp2_with fail
      go_region
      go_wp2_with fail
      go_roundg (n - (i + 1))
      case measure => rw [HKK.out]; omega
      case rel => exact ⟨i + 1, by omega, rfl, by go_num, HKE.out⟩
    · have d1 : ((i : Int) < (n : Int)) ↔ False := by simp; omega
      obtain rfl : i = n := by omega
      have HKE := Lib.hid hK
      clear hK
      go_wp2_with fail
      go_ret
      exact ⟨rfl, HKE.out⟩

/-- A text begins another one. -/
theorem begins_walk {x y : List UInt8} (h : ∃ z, y = x ++ z) (hy : y.length ≤ 262144) (w : World) :
    Calls Try.prog 21 #[.string ⟨x.toArray⟩, .string ⟨y.toArray⟩] w fun e w' => e = .returned (.bool true) ∧ w' = w := by
  obtain ⟨z, rfl⟩ := h
  have hx : (⟨x.toArray⟩ : ByteArray).size = x.length := by simp [ByteArray.size]
  have hxy : (⟨(x ++ z).toArray⟩ : ByteArray).size = (x ++ z).length := by simp [ByteArray.size]
  have hle : x.length ≤ (x ++ z).length := by simp
  have hex : ((⟨(x ++ z).toArray⟩ : ByteArray).extract 0 (⟨x.toArray⟩ : ByteArray).size).toList = (⟨x.toArray⟩ : ByteArray).toList := by
    rw [ByteArray.toList_eq, ByteArray.toList_eq, hx, ByteArray.data_extract]
    simp
  generalize hX : (⟨x.toArray⟩ : ByteArray) = X at *
  generalize hY : (⟨(x ++ z).toArray⟩ : ByteArray) = Y at *
  have d1 : ((X.size : Int) ≤ (Y.size : Int)) ↔ True := by rw [hx, hxy]; simp; omega
  have HE := Lib.hid hX
  have HE2 := Lib.hid hY
  have hm : X.size ≤ 262144 := by omega
  have hm2 : X.size ≤ Y.size := by omega
  have HEX := Lib.hid hex
  clear hX hY hx hxy hle hy hex
  go_enter Try.func21, Try.ntmps21
  go_wp2_with fail
  go_ret
  refine ⟨?_, rfl⟩
  show Ending.returned (Value.bool ((Y.extract 0 X.size).toList == X.toList)) = _
  rw [HEX.out]
  simp
end Go.Proofs.Ytbankfdgoolbdaa
namespace Go.Proofs.Ytbankfdgoolbdaa
open Go Go.RowKit Go.Lib
set_option linter.unusedVariables false
variable {o own : List Nat} {w0 w w' : World} {v : Value} {l : Dir}

def nmVals (p : Nm × Nat) : List Value := [.string ⟨p.1.toArray⟩, .int .i64 p.2]
def nmFlat (l : Dir) : List Value := l.flatMap nmVals

theorem nmFlat_len : ∀ l : Dir, (nmFlat l).length = l.length * 2
  | [] => rfl
  | p :: r => by
    show (nmVals p ++ nmFlat r).length = _
    rw [List.length_append, nmFlat_len r]
    show 2 + _ = (r.length + 1) * 2
    omega
theorem nmFlat_append (a b : Dir) : nmFlat (a ++ b) = nmFlat a ++ nmFlat b := List.flatMap_append
theorem nmFlat_get : ∀ (l : Dir) (j : Nat) (p : Nm × Nat), l[j]? = some p → (nmFlat l)[j * 2]? = some (.string ⟨p.1.toArray⟩) ∧ (nmFlat l)[j * 2 + 1]? = some (.int .i64 p.2)
  | [], j, p, h => by cases h
  | q :: r, 0, p, h => by
    cases h
    exact ⟨rfl, rfl⟩
  | q :: r, j + 1, p, h => by
    have := nmFlat_get r j p h
    show ((nmVals q ++ nmFlat r)[(j + 1) * 2]? = _) ∧ ((nmVals q ++ nmFlat r)[(j + 1) * 2 + 1]? = _)
    have e : (nmVals q).length = 2 := rfl
    rw [List.getElem?_append_right (by rw [e]; omega), List.getElem?_append_right (by rw [e]; omega), e]
    rw [show (j + 1) * 2 - 2 = j * 2 by omega, show (j + 1) * 2 + 1 - 2 = j * 2 + 1 by omega]
    exact this
theorem nmFlat_one (l : Dir) : ∀ u ∈ nmFlat l, u.oneCell' = true := by
  intro u hu
  obtain ⟨p, _, hp⟩ := List.mem_flatMap.1 hu
  simp [nmVals] at hp
  rcases hp with rfl | rfl <;> rfl
theorem nmFlat_drop (l : Dir) (i : Nat) : (nmFlat l).drop (i * 2) = nmFlat (l.drop i) := by
  by_cases h : i ≤ l.length
  · have e : nmFlat l = nmFlat (l.take i) ++ nmFlat (l.drop i) := by rw [← nmFlat_append, List.take_append_drop]
    have e2 : (nmFlat (l.take i)).length = i * 2 := by rw [nmFlat_len, List.length_take]; congr 1; omega
    rw [e, ← e2, List.drop_left]
  · rw [List.drop_of_length_le (by rw [nmFlat_len]; omega), List.drop_of_length_le (by omega)]
    rfl

/-- A list of names. -/
def Part.nms (v : Value) (l : Dir) : Part := .row 97 2 v l.length (nmFlat l)

/-- A list of names that can be read. -/
def DirAt (w : World) (v : Value) (l : Dir) : Prop :=
  (v = .slice none 0 0 ∧ l = []) ∨ ∃ g c, v = .slice (some ⟨g, 0, none⟩) l.length c ∧ l.length ≤ c ∧ c ≤ maxLen ∧ g < w.heap.size ∧ ∀ j u, (nmFlat l)[j]? = some u → w.cell? ⟨g, j, none⟩ = some u

theorem DirAt.len (h : DirAt w v l) : ∃ p c, v = .slice p l.length c ∧ l.length ≤ c ∧ c ≤ 9223372036854775807 := by
  rcases h with ⟨rfl, rfl⟩ | ⟨g, c, rfl, h1, h2, _⟩
  · exact ⟨_, _, rfl, Nat.le_refl _, by omega⟩
  · exact ⟨_, _, rfl, h1, h2⟩

theorem dirAt_of (h : w.ownsRow 0 97 2 v l.length (nmFlat l)) : DirAt w v l := by
  rcases rowN_open h with ⟨e, h0⟩ | ⟨g, c, e, h1, h2, h3, _, h4⟩
  · exact .inl ⟨e, List.eq_nil_of_length_eq_zero h0⟩
  · exact .inr ⟨g, c, e, h1, h2, h3, h4⟩
theorem Has.dirAt (h : Has o w0 w (.nms v l)) : DirAt w v l := by
  obtain ⟨_, ⟨hr, _⟩, _⟩ := h
  exact dirAt_of hr

theorem DirAt.kept (h : DirAt w v l) (k : Kept own w w') (ho : ∀ x ∈ own, w.heap.size ≤ x) : DirAt w' v l := by
  rcases h with h | ⟨g, c, e, h1, h2, h3, h4⟩
  · exact .inl h
  · exact .inr ⟨g, c, e, h1, h2, Nat.lt_of_lt_of_le h3 k.size, fun j u hu => k.cell (h4 j u hu) fun hm => by have := ho _ hm; omega⟩

theorem DirAt.cells (h : DirAt w v l) {j : Nat} {p : Nm × Nat} (hj : l[j]? = some p) : ∃ g c, v = .slice (some ⟨g, 0, none⟩) l.length c ∧ l.length ≤ c ∧ w.cell? ⟨g, j * 2, none⟩ = some (.string ⟨p.1.toArray⟩) ∧ w.cell? ⟨g, j * 2 + 1, none⟩ = some (.int .i64 p.2) := by
  rcases h with ⟨rfl, rfl⟩ | ⟨g, c, e, h1, h2, h3, h4⟩
  · cases hj
  · exact ⟨g, c, e, h1, h4 _ _ (nmFlat_get l j p hj).1, h4 _ _ (nmFlat_get l j p hj).2⟩

theorem find_at {l : Dir} {s : Nm} {i : Nat} {p : Nm × Nat} (hp : l[i]? = some p) (he : p.1 = s) (hn : ∀ (j : Nat) (q : Nm × Nat), j < i → l[j]? = some q → q.1 ≠ s) : alFind l s = some p.2 := by
  unfold alFind
  have hi := (List.getElem?_eq_some_iff.1 hp)
  obtain ⟨hlt, e⟩ := hi
  rw [List.find?_eq_some_iff_getElem.2 ⟨by simpa using he, i, hlt, e, fun j hj => by simpa using hn j _ hj (List.getElem?_eq_getElem (by omega))⟩]
  rfl
theorem find_not {l : Dir} {s : Nm} (hn : ∀ (j : Nat) (q : Nm × Nat), l[j]? = some q → q.1 ≠ s) : alFind l s = none := by
  unfold alFind
  rw [Option.map_eq_none_iff, List.find?_eq_none]
  intro p hp
  obtain ⟨j, hj⟩ := List.mem_iff_getElem?.1 hp
  simpa using hn j p hj

theorem bytes_ne {u : Nm} {s : ByteArray} (h : u ≠ s.data.toList) : ((⟨u.toArray⟩ : ByteArray).toList == s.toList) = false ∧ (((⟨u.toArray⟩ : ByteArray).toList = s.toList) ↔ False) := by
  have : ¬ (⟨u.toArray⟩ : ByteArray).toList = s.toList := fun e => h (by rw [ByteArray.toList_eq, ByteArray.toList_eq] at e; exact e)
  exact ⟨by simpa using this, by simpa using this⟩
theorem bytes_eq {u : Nm} {s : ByteArray} (h : u = s.data.toList) : ((⟨u.toArray⟩ : ByteArray).toList == s.toList) = true ∧ (((⟨u.toArray⟩ : ByteArray).toList = s.toList) ↔ True) := by
  have : (⟨u.toArray⟩ : ByteArray).toList = s.toList := by rw [ByteArray.toList_eq, ByteArray.toList_eq]; exact h
  exact ⟨by simpa using this, by simpa using this⟩

def foundV (l : Dir) (s : Nm) : Int := match alFind l s with | some i => (i : Nat) | none => -1

set_option maxHeartbeats 2000000 in
set_option maxRecDepth 100000 in
theorem find_walk (h : DirAt w v l) (s : ByteArray) : Calls Try.prog 58 #[v, .string s] w fun e w' => e = .returned (.int .i64 (foundV l s.data.toList)) ∧ w' = w := by
  have HD := Lib.hid h
  obtain ⟨p, c, rfl, hlc, hcm⟩ := h.len
  obtain ⟨n, hn⟩ : ∃ n, l.length = n := ⟨_, rfl⟩
  rw [hn] at hlc HD ⊢
  have HN := Lib.hid hn
  clear hn h
  go_enter Try.func58, Try.ntmps58
  go_wp2_with fail
  go_loopg [5] n (fun kk iv wr => ∃ i : Nat, i ≤ n ∧ kk = n - i ∧ iv = .int .i64 i ∧ (∀ (j : Nat) (q : Nm × Nat), j < i → l[j]? = some q → q.1 ≠ s.data.toList) ∧ wr = w)
  case atStart => exact ⟨0, Nat.zero_le _, rfl, rfl, (fun j q hj => by omega), rfl⟩
  case round =>
    obtain ⟨i, hi, hkk, rfl, hno, rfl⟩ := hrel
    have HKK := Lib.hid hkk
    have HNO := Lib.hid hno
    clear hkk hno
    by_cases hlt : i < n
    · have d1 : ((i : Int) < (n : Int)) ↔ True := by simp; omega
      obtain ⟨q, hq⟩ : ∃ q, l[i]? = some q := ⟨_, List.getElem?_eq_getElem (by have := HN.out; omega)⟩
      obtain ⟨g, c', e, _, c1, c2⟩ := HD.out.cells hq
      obtain ⟨rfl, rfl⟩ : p = some ⟨g, 0, none⟩ ∧ c = c' := by injection e with e1 _ e2; exact ⟨e1, e2⟩
      have hd : decide (i < n) = true := decide_eq_true hlt
      have hdc : i < c := by omega
      clear e
      by_cases he : q.1 = s.data.toList
      · obtain ⟨t1, t2⟩ := bytes_eq he
        have HF := Lib.hid (find_at hq he HNO.out)
        generalize (⟨q.1.toArray⟩ : ByteArray) = X at *
        clear he hq
        go_wp2_with fail
        go_ret
        refine ⟨?_, rfl⟩
        unfold foundV
        rw [HF.out]
        rfl
      · obtain ⟨t1, t2⟩ := bytes_ne he
        have HE := Lib.hid he
        have HQ := Lib.hid hq
        generalize (⟨q.1.toArray⟩ : ByteArray) = X at *
        clear he hq
        go_wp2_with fail
        go_roundg (n - (i + 1))
        case measure => rw [HKK.out]; omega
        case rel => exact ⟨i + 1, by omega, rfl, by go_num, (fun j q' hj hq' => by
          by_cases e : j = i
          · subst e; rw [HQ.out] at hq'; cases hq'; exact HE.out
          · exact HNO.out j q' (by omega) hq'), rfl⟩
    · have d1 : ((i : Int) < (n : Int)) ↔ False := by simp; omega
      have HF := Lib.hid (find_not (l := l) (s := s.data.toList) fun j q hq => HNO.out j q (by
        have := (List.getElem?_eq_some_iff.1 hq).1; have := HN.out; omega) hq)
      go_wp2_with fail
      go_ret
      refine ⟨?_, rfl⟩
      unfold foundV
      rw [HF.out]
      rfl

theorem less_before : ∀ a b : Nm, Op.bytesLess a b = bytesBefore a b
  | [], [] => rfl
  | [], _ :: _ => rfl
  | _ :: _, [] => rfl
  | x :: r, y :: s => by
    unfold Op.bytesLess bytesBefore
    rw [less_before r s]

theorem alIns_at {α : Type} (x : Nm × α) : ∀ (l : List (Nm × α)) (i : Nat), (∀ j q, j < i → l[j]? = some q → bytesBefore q.1 x.1 = true) → (∀ q, l[i]? = some q → bytesBefore q.1 x.1 = false) → (∀ q ∈ l, q.1 ≠ x.1) → i ≤ l.length →
    alIns x l = l.take i ++ x :: l.drop i
  | [], i, _, _, _, hi => by
    obtain rfl : i = 0 := by simpa using hi
    rfl
  | y :: r, 0, _, h2, h3, _ => by
    have := bytesBefore_total (h2 y rfl) (h3 y (by simp))
    unfold alIns
    rw [if_pos this]
    rfl
  | y :: r, i + 1, h1, h2, h3, hi => by
    have h := h1 0 y (by omega) rfl
    have hno : bytesBefore x.1 y.1 = false := by
      cases hb : bytesBefore x.1 y.1 with
      | false => rfl
      | true => have := bytesBefore_trans h hb; rw [bytesBefore_irrefl] at this; cases this
    unfold alIns
    rw [if_neg (by rw [hno]; simp), alIns_at x r i (fun j q hj hq => h1 (j + 1) q (by omega) hq) (fun q hq => h2 q hq) (fun q hq => h3 q (by simp [hq])) (by simpa using hi)]
    rfl

end Go.Proofs.Ytbankfdgoolbdaa
namespace Go.Proofs.Ytbankfdgoolbdaa
open Go Go.RowKit Go.Lib
set_option linter.unusedVariables false
variable {o own : List Nat} {w0 w w' : World} {v : Value} {l : Dir}

theorem info_nm : (Try.prog.info? 97).map (fun i => (i.zero, i.size, i.bytes)) = some (some (.agg #[.string ⟨#[]⟩, .int .i64 0]), 2, 24) := by kernel_rfl

theorem cell_made (w : World) (n : Nat) (C : Array Value) (t : TypeId) (hn : n = w.heap.size) : ∀ j u, C.toList[j]? = some u → (w.alloc (.cells C t)).cell? ((⟨n, 0, none⟩ : Addr).add j) = some u := by
  subst hn
  intro j u hu
  rw [addr0, World.cell?_alloc_mark, ← Array.getElem?_toList]
  exact hu

theorem has_nil (w : World) : Has [] w w (.nms (.slice none 0 0) []) := ⟨[], ⟨World.ownsRow_nil _ _ _ _, by simp [rowsOf, Value.ownBlock]⟩, by simp, Kept.refl _ _⟩

theorem nms_app {w5 : World} {ob : Obj} {v' : Value} {p : Nm × Nat} (h : Has o w0 w (.nms v l)) (happ : Appended (w.alloc ob) w5 97 2 v v' (l.length + 1) (nmFlat l ++ nmVals p)) : Has o w0 w5 (.nms v' (l ++ [p])) := by
  have := Has.rowAppend ob h happ
  unfold Part.nms
  rw [nmFlat_append, List.length_append]
  have e : nmFlat [p] = nmVals p := by simp [nmFlat]
  rw [e]
  exact this

theorem take_del (l : Dir) (s : Nm) (i : Nat) (q : Nm × Nat) (hq : l[i]? = some q) : alDel (l.take (i + 1)) s = alDel (l.take i) s ++ (if q.1 = s then [] else [q]) := by
  obtain ⟨hlt, rfl⟩ := List.getElem?_eq_some_iff.1 hq
  rw [List.take_succ_eq_append_getElem hlt]
  unfold alDel
  rw [List.filter_append]
  congr 1
  by_cases h : l[i].1 = s
  · rw [if_pos h, List.filter_cons_of_neg (by simp [h])]; rfl
  · rw [if_neg h, List.filter_cons_of_pos (by simpa using h)]; rfl

set_option maxHeartbeats 4000000 in
set_option maxRecDepth 100000 in
theorem without_walk (h : DirAt w v l) (s : ByteArray) (hl : l.length ≤ 64) : Calls Try.prog 67 #[v, .string s] w fun e w' => ∃ v', e = .returned v' ∧ Has [] w w' (.nms v' (alDel l s.data.toList)) := by
  have HD := Lib.hid h
  obtain ⟨p, c, rfl, hlc, hcm⟩ := h.len
  obtain ⟨n, hn⟩ : ∃ n, l.length = n := ⟨_, rfl⟩
  rw [hn] at hlc HD hl ⊢
  have HN := Lib.hid hn
  clear hn h
  obtain ⟨i0, hi, he⟩ := Option.map_eq_some_iff.1 info_nm
  obtain ⟨hz0, hz1, hz2⟩ : i0.zero = some (.agg #[.string ⟨#[]⟩, .int .i64 0]) ∧ i0.size = 2 ∧ i0.bytes = 24 := by simpa using he
  clear he
  go_enter Try.func67, Try.ntmps67
  go_wp2_with fail
  go_loopg [5, 6] n (fun kk ov iv wr => ∃ i : Nat, i ≤ n ∧ kk = n - i ∧ iv = .int .i64 i ∧ Has [] w wr (.nms ov (alDel (l.take i) s.data.toList)))
  case atStart => exact ⟨0, Nat.zero_le _, rfl, rfl, has_nil w⟩
  case round =>
    obtain ⟨i, hi', hkk, rfl, hH⟩ := hrel
    have HKK := Lib.hid hkk
    have HH := Lib.hid hH
    clear hkk
    by_cases hlt : i < n
    · have d1 : ((i : Int) < (n : Int)) ↔ True := by simp; omega
      obtain ⟨q, hq⟩ : ∃ q, l[i]? = some q := ⟨_, List.getElem?_eq_getElem (by have := HN.out; omega)⟩
      obtain ⟨g, c', e, _, c1, c2⟩ := (HD.out.kept hH.keeps (by simp)).cells hq
      obtain ⟨rfl, rfl⟩ : p = some ⟨g, 0, none⟩ ∧ c = c' := by injection e with e1 _ e2; exact ⟨e1, e2⟩
      have hd : decide (i < n) = true := decide_eq_true hlt
      have hdc : i < c := by omega
      have HTD := Lib.hid (take_del l s.data.toList i q hq)
      obtain ⟨ox, om, oc, rfl⟩ : ∃ ox om oc, u5 = .slice ox om oc := by
        rcases hH.dirAt with ⟨rfl, _⟩ | ⟨g, c, rfl, _⟩
        · exact ⟨_, _, _, rfl⟩
        · exact ⟨_, _, _, rfl⟩
      clear e hq
      by_cases he : q.1 = s.data.toList
      · obtain ⟨t1, t2⟩ := bytes_eq he
        have HE := Lib.hid he
        generalize (⟨q.1.toArray⟩ : ByteArray) = X at *
        clear he hH
        go_wp2_with fail
        go_roundg (n - (i + 1))
        case measure => rw [HKK.out]; omega
        case rel => exact ⟨i + 1, by omega, rfl, by go_num, by rw [HTD.out, if_pos HE.out, List.append_nil]; exact HH.out⟩
      · obtain ⟨t1, t2⟩ := bytes_ne he
        have HE := Lib.hid he
        have hlen2 : (alDel (l.take i) s.data.toList).length ≤ 64 := by
          have h1 := alDel_length (l.take i) s.data.toList
          have h2 : (l.take i).length ≤ l.length := List.length_take_le' _ _
          have := HN.out; omega
        obtain ⟨X, hX⟩ : ∃ X, (⟨q.1.toArray⟩ : ByteArray) = X := ⟨_, rfl⟩
        obtain ⟨_, ⟨hr, _⟩, _⟩ := hH.alloc (.cells #[.string X, .int .i64 q.2] 97)
        rw [hX] at c1 t1 t2
        have HR := Lib.hid hr
        have HL2 := Lib.hid hlen2
        have HX := Lib.hid (show nmVals q = [.string X, .int .i64 q.2] by unfold nmVals; rw [hX])
        clear he hH hr hlen2 hX
        go_wp2_with (at_builtin; refine wpList_append_new rfl (.tmp 20) (.tmp 25) 79 rfl 97 i0 (.agg #[.string ⟨#[]⟩, .int .i64 0]) 2 24 Try.underlying79 hi hz0 hz1 hz2 rfl (by decide) _ _ _ rfl HR.out ⟨_, 0, none⟩ 1 1 [.string X, .int .i64 q.2] rfl rfl (cell_made _ _ _ _ rfl) (by intro u hu; simp at hu; rcases hu with rfl | rfl <;> rfl) (by have := HL2.out; simp only [maxLen]; omega) (by have := HL2.out; omega) ?_; intro v9 w9 happ; have HAP := Lib.hid happ; clear happ)
        go_roundg (n - (i + 1))
        case measure => rw [HKK.out]; omega
        case rel => exact ⟨i + 1, by omega, rfl, by go_num, by
          rw [HTD.out, if_neg HE.out]
          have := HAP.out
          rw [← HX.out] at this
          exact nms_app HH.out this⟩
    · have d1 : ((i : Int) < (n : Int)) ↔ False := by simp; omega
      obtain rfl : i = n := by omega
      have hfull : l.take i = l := List.take_of_length_le (by have := HN.out; omega)
      rw [hfull] at HH
      clear hfull hH
      go_wp2_with fail
      go_ret
      exact ⟨_, rfl, HH.out⟩
theorem dir_slice {p : Option Addr} {n c i : Nat} (h : DirAt w (.slice p n c) l) (hn : l.length = n) (hi : i ≤ n) :
    ∃ p2, (∀ W : World, (Instr.slice 79 (.slice p n c) (some (.int .i64 (i : Int))) none none).run Try.prog W = .ok (.slice p2 (n - i) (c - i)) W) ∧ (p2 = none → l.drop i = []) ∧
      ∀ ad, p2 = some ad → ∀ W : World, DirAt W (.slice p n c) l → ∀ j u, (nmFlat (l.drop i))[j]? = some u → W.cell? (ad.add j) = some u := by
  have hnc : n ≤ c := by
    obtain ⟨p', c', e, h1, _⟩ := h.len
    injection e with _ e2 e3
    omega
  refine ⟨if c = i then p else p.map (·.add (i * 2)), fun W => ?_, ?_, ?_⟩
  · rw [run_slice_l W 79 p n c (by kernel_rfl) .i64 (i : Int) (by omega) (by omega), show (sizeOf (Try.prog.elem 79)).run Try.prog W = .ok 2 W from by kernel_rfl]
    show Result.ok (sliced p ((i : Int)).toNat n c 2) W = _
    unfold sliced
    rw [Int.toNat_natCast]
  · intro e
    rcases h with ⟨e1, rfl⟩ | ⟨g, c', e1, _⟩
    · simp
    · injection e1 with e2 _ _
      subst e2
      split at e <;> cases e
  · intro ad e W hW j u hu
    rcases hW with ⟨e1, rfl⟩ | ⟨g, c', e1, h1, h2, h3, h4⟩
    · simp [nmFlat] at hu
    · injection e1 with e2 _ e3
      subst e2
      have hjn : i * 2 + j < (nmFlat l).length := by
        rw [← nmFlat_drop] at hu
        have := (List.getElem?_eq_some_iff.1 hu).1
        rw [List.length_drop] at this
        omega
      rw [nmFlat_len] at hjn
      have hic : c ≠ i := by omega
      rw [if_neg hic] at e
      cases e
      have h5 := h4 (i * 2 + j) u (by rw [← nmFlat_drop, List.getElem?_drop] at hu; exact hu)
      show W.cell? ((Addr.add ⟨g, 0, none⟩ (i * 2)).add j) = some u
      rw [addr0]
      have : (⟨g, i * 2, none⟩ : Addr).add j = ⟨g, i * 2 + j, none⟩ := addr_add _ _ _
      rw [this]
      exact h5

/-- An append whose run is known. -/
theorem wpList_append_run {P : Program} {ops : Array Oper} {rest : List Oper} {op : Oper} {a : Act} {Q : Exit → Act → World → Prop} (hgd : op.guard = none) (s x : Operand) (t : TypeId)
    (ho : op.op = .call { callee := .builtin .append, args := #[s, x], argTypes := #[t, t] }) (sv xv : Value) (hs : a.eval s = sv) (hx : a.eval x = xv) {v' : Value} {w' : World}
    (hrun : ∀ ty, (Builtin.append_ #[t, t] ty #[sv, xv]).run P w = .ok v' w') (h : wpList P ops Q rest (a.put op.dst v') w') : wpList P ops Q (op :: rest) a w := by
  refine wpList_plain hgd fun K hK => ?_
  unfold Oper.wp execOp
  simp only [ho, resolve, invoke, builtin, Sem.run_bind, Sem.run_pure, Result.andThen_ok, List.map_toArray, List.map_cons, List.map_nil, hs, hx, hrun]
  exact hK _ _ h

/-- Names appended to names. -/
theorem run_append_nms {a b : Dir} {p2 : Option Addr} {m k : Nat} (hown : w.ownsRow 0 97 2 v a.length (nmFlat a)) (hm : b.length = m) (h0 : p2 = none → b = [])
    (hc : ∀ ad, p2 = some ad → ∀ j u, (nmFlat b)[j]? = some u → w.cell? (ad.add j) = some u) (hab : a.length + b.length ≤ 200) :
    ∃ v' w', (∀ ty, (Builtin.append_ #[79, 79] ty #[v, .slice p2 m k]).run Try.prog w = .ok v' w') ∧ Appended w w' 97 2 v v' (a.length + b.length) (nmFlat a ++ nmFlat b) := by
  obtain ⟨i0, hi, he⟩ := Option.map_eq_some_iff.1 info_nm
  obtain ⟨hz0, hz1, hz2⟩ : i0.zero = some (.agg #[.string ⟨#[]⟩, .int .i64 0]) ∧ i0.size = 2 ∧ i0.bytes = 24 := by simpa using he
  subst hm
  cases p2 with
  | none =>
    obtain rfl := h0 rfl
    obtain ⟨q, n, c, rfl, hnc⟩ : ∃ q n c, v = .slice q n c ∧ n ≤ c := by
      rcases rowN_open hown with ⟨rfl, _⟩ | ⟨g, cap, rfl, h1, _⟩
      · exact ⟨_, _, _, rfl, Nat.le_refl _⟩
      · exact ⟨_, _, _, rfl, h1⟩
    refine ⟨_, _, fun _ => run_append_nothing w _ _ _ 97 i0 Try.underlying79 hi q n c hnc _ (Src.ofNil w Try.underlying79 _), ?_, ⟨rfl, rfl, rfl, Nat.le_refl _, fun _ _ _ => rfl⟩, .inl rfl⟩
    show w.ownsRow 0 _ 2 _ (a.length + 0) (nmFlat a ++ nmFlat [])
    rw [show nmFlat [] = [] from rfl, List.append_nil]
    exact hown
  | some ad =>
    obtain ⟨v', w', hr, ha⟩ := run_append_new (P := Try.prog) w 79 79 97 i0 (.agg #[.string ⟨#[]⟩, .int .i64 0]) 2 24 Try.underlying79 hi hz0 hz1 hz2 rfl (by decide) v a.length (nmFlat a) hown ad b.length k (nmFlat b) (nmFlat_len b) (hc ad rfl) (nmFlat_one b)
      (Nat.le_trans hab (by decide)) (by omega)
    exact ⟨v', w', fun _ => hr, ha⟩

theorem nms_apps {w5 : World} {v' : Value} {b : Dir} (h : Has o w0 w (.nms v l)) (happ : Appended w w5 97 2 v v' (l.length + b.length) (nmFlat l ++ nmFlat b)) : Has o w0 w5 (.nms v' (l ++ b)) := by
  obtain ⟨fp, ⟨hr, rfl⟩, hn, k⟩ := h
  have k1 : Kept (rowsOf v) w w5 := (Kept.refl _ w).grown happ.grown fun b _ e => by simp [mem_rowsOf, e]
  unfold Part.nms
  rw [nmFlat_append, List.length_append]
  refine Has.step hn k ⟨rowsOf v', ⟨happ.row, rfl⟩, ?_, k1⟩
  intro x hx
  rw [mem_rowsOf] at hx ⊢
  rcases happ.place with e | e
  · rw [e] at hx; exact .inl hx
  · rw [e] at hx
    simp only [Option.some.injEq] at hx
    right; omega

set_option maxHeartbeats 4000000 in
set_option maxRecDepth 100000 in
theorem with_walk (h : DirAt w v l) (s : ByteArray) (at_ : Nat) (hl : l.length ≤ 64) : Calls Try.prog 66 #[v, .string s, .int .i64 at_] w fun e w' => ∃ v', e = .returned v' ∧ Has [] w w' (.nms v' (alPut l s.data.toList at_)) := by
  have HW := Lib.hid (without_walk h s hl)
  have hv := h.len
  obtain ⟨p, c, rfl, _⟩ := hv
  have hl1 : (alDel l s.data.toList).length ≤ 64 := Nat.le_trans (alDel_length _ _) hl
  have hno : ∀ q ∈ alDel l s.data.toList, q.1 ≠ s.data.toList := fun q hq => by simpa [alDel] using (List.mem_filter.1 hq).2
  have HPUT := Lib.hid (show alPut l s.data.toList at_ = alIns (s.data.toList, at_) (alDel l s.data.toList) from rfl)
  have HNO := Lib.hid hno
  clear hno h
  obtain ⟨i0, hi, he⟩ := Option.map_eq_some_iff.1 info_nm
  obtain ⟨hz0, hz1, hz2⟩ : i0.zero = some (.agg #[.string ⟨#[]⟩, .int .i64 0]) ∧ i0.size = 2 ∧ i0.bytes = 24 := by simpa using he
  clear he
  generalize l.length = n0 at *
  go_enter Try.func66, Try.ntmps66
  go_wp2_with fail
  refine HW.out.mono ?_
  rintro e w1 ⟨rv, rfl, h1⟩
  have H1 := Lib.hid h1
  have hD1 := h1.dirAt
  obtain ⟨rp, rc, rfl, hrc, hrm⟩ := hD1.len
  have HD1 := Lib.hid hD1
  clear h1 hD1 HW
  generalize alDel l s.data.toList = L1 at *
  obtain ⟨n, hn⟩ : ∃ n, L1.length = n := ⟨_, rfl⟩
  rw [hn] at hl1 hrc HD1 H1 ⊢
  have HN1 := Lib.hid hn
  clear hn
  go_wp2_with fail
  go_loopg [8, 9] n (fun kk ov iv wr => ∃ i : Nat, i ≤ n ∧ kk = n - i ∧ iv = .int .i64 i ∧ (∀ j q, j < i → L1[j]? = some q → bytesBefore q.1 s.data.toList = true) ∧ Has [] w wr ((Part.nms (.slice rp n rc) L1).sep (.nms ov (L1.take i))))
  case atStart => exact ⟨0, Nat.zero_le _, rfl, rfl, (fun j q hj => by omega), H1.out.beside (has_nil w1)⟩
  case round =>
    obtain ⟨i, hi', hkk, rfl, hbf, hS⟩ := hrel
    have HKK := Lib.hid hkk
    have HB := Lib.hid hbf
    have hD1r := Lib.hid (hS.fst.dirAt)
    clear hkk hbf
    obtain ⟨ox, om, oc, rfl⟩ : ∃ ox om oc, u8 = .slice ox om oc := by
      rcases hS.swap.fst.dirAt with ⟨rfl, _⟩ | ⟨g, c, rfl, _⟩
      · exact ⟨_, _, _, rfl⟩
      · exact ⟨_, _, _, rfl⟩
    by_cases hlt : i < n
    · have d1 : ((i : Int) < (n : Int)) ↔ True := by simp; omega
      obtain ⟨q, hq⟩ : ∃ q, L1[i]? = some q := ⟨_, List.getElem?_eq_getElem (by have := HN1.out; omega)⟩
      obtain ⟨g, c', e, _, c1, c2⟩ := hD1r.out.cells hq
      obtain ⟨rfl, rfl⟩ : rp = some ⟨g, 0, none⟩ ∧ rc = c' := by injection e with e1 _ e2; exact ⟨e1, e2⟩
      have hd : decide (i < n) = true := decide_eq_true hlt
      have hdc : i < rc := by omega
      obtain ⟨X, hX⟩ : ∃ X, (⟨q.1.toArray⟩ : ByteArray) = X := ⟨_, rfl⟩
      have hless : Op.bytesLess X.toList s.toList = bytesBefore q.1 s.data.toList := by
        rw [less_before, ← hX, ByteArray.toList_eq, ByteArray.toList_eq]
      rw [hX] at c1
      have HX := Lib.hid (show nmVals q = [.string X, .int .i64 q.2] by unfold nmVals; rw [hX])
      have HQ := Lib.hid hq
      clear e hX
      by_cases hb : bytesBefore q.1 s.data.toList = true
      · rw [hb] at hless
        have HBB := Lib.hid hb
        have hlen2 : (L1.take i).length = i := by rw [List.length_take]; have := HN1.out; omega
        have HL2 := Lib.hid hlen2
        obtain ⟨_, ⟨hr, _⟩, _⟩ := hS.swap.fst.alloc (.cells #[.string X, .int .i64 q.2] 97)
        have HR := Lib.hid hr
        have HS := Lib.hid hS
        clear hb hq hr hS hlen2
        go_wp2_with (at_builtin; refine wpList_append_new rfl (.tmp 26) (.tmp 31) 79 rfl 97 i0 (.agg #[.string ⟨#[]⟩, .int .i64 0]) 2 24 Try.underlying79 hi hz0 hz1 hz2 rfl (by decide) _ _ _ rfl HR.out ⟨_, 0, none⟩ 1 1 [.string X, .int .i64 q.2] rfl rfl (cell_made _ _ _ _ rfl) (by intro u hu; simp at hu; rcases hu with rfl | rfl <;> rfl) (by have := HL2.out; simp only [maxLen]; omega) (by have := HL2.out; omega) ?_; intro v9 w9 happ; have HAP := Lib.hid happ; clear happ)
        go_roundg (n - (i + 1))
        case measure => rw [HKK.out]; omega
        case rel => exact ⟨i + 1, by omega, rfl, by go_num, (fun j q' hj hq' => by
            by_cases e : j = i
            · subst e; rw [HQ.out] at hq'; cases hq'; exact HBB.out
            · exact HB.out j q' (by omega) hq'), by
          have := HAP.out
          rw [← HX.out] at this
          rw [show L1.take (i + 1) = L1.take i ++ [q] by
            obtain ⟨hlt', rfl⟩ := List.getElem?_eq_some_iff.1 HQ.out
            exact List.take_succ_eq_append_getElem hlt']
          obtain ⟨o', h', _, _, back⟩ := HS.out.right
          exact back _ _ (nms_app h' this)⟩
      · have hb' : bytesBefore q.1 s.data.toList = false := by simpa using hb
        rw [hb'] at hless
        have hins := alIns_at (s.data.toList, at_) L1 i HB.out (fun q' hq' => by rw [HQ.out] at hq'; cases hq'; exact hb') HNO.out (by have := HN1.out; omega)
        clear hb hb' hq
        have HS := Lib.hid hS
        obtain ⟨_, ⟨hr, _⟩, _⟩ := hS.swap.fst.alloc (.cells #[.string s, .int .i64 at_] 97)
        have HR := Lib.hid hr
        have hlen2 : (L1.take i).length = i := by rw [List.length_take]; have := HN1.out; omega
        have HL2 := Lib.hid hlen2
        obtain ⟨p2, hsl, hp0, hpc⟩ := dir_slice (hD1r.out) HN1.out (show i ≤ n by omega)
        have HSL := Lib.hid (And.intro hp0 hpc)
        have HIN := Lib.hid hins
        clear hr hS hlen2 hp0 hpc hins
        go_upto_region 8 with (at_builtin; refine wpList_append_new rfl (.tmp 35) (.tmp 39) 79 rfl 97 i0 (.agg #[.string ⟨#[]⟩, .int .i64 0]) 2 24 Try.underlying79 hi hz0 hz1 hz2 rfl (by decide) _ _ _ rfl HR.out ⟨_, 0, none⟩ 1 1 [.string s, .int .i64 at_] rfl rfl (cell_made _ _ _ _ rfl) (by intro u hu; simp at hu; rcases hu with rfl | rfl <;> rfl) (by have := HL2.out; simp only [maxLen]; omega) (by have := HL2.out; omega) ?_; intro v9 w9 happ; have HAP := Lib.hid happ; clear happ)
        have hS9 : Has [] w w9 ((Part.nms (.slice (some ⟨g, 0, none⟩) n rc) L1).sep (.nms v9 (L1.take i ++ [(s.data.toList, at_)]))) := by
          obtain ⟨o', h', _, _, back⟩ := HS.out.right
          exact back _ _ (nms_app (p := (s.data.toList, at_)) h' (by have := HAP.out; exact this))
        have hD9 := hS9.fst.dirAt
        obtain ⟨qx, qm, qc, rfl⟩ : ∃ qx qm qc, v9 = .slice qx qm qc := by
          rcases hS9.swap.fst.dirAt with ⟨rfl, _⟩ | ⟨g, c, rfl, _⟩
          · exact ⟨_, _, _, rfl⟩
          · exact ⟨_, _, _, rfl⟩
        obtain ⟨_, ⟨hr9, _⟩, _⟩ := hS9.swap.fst
        obtain ⟨v8, w8, hrun, happ⟩ := run_append_nms (b := L1.drop i) (m := n - i) (k := rc - i) (p2 := p2) hr9 (by rw [List.length_drop, HN1.out]) HSL.out.1 (fun ad e j u hu => HSL.out.2 ad e w9 hD9 j u hu) (by
          have := HL2.out; have := HN1.out
          rw [List.length_append, List.length_drop]
          simp only [List.length_cons, List.length_nil]
          omega)
        have hfin : Has [] w w8 (.nms v8 (alPut l s.data.toList at_)) := by
          have := nms_apps hS9.swap.fst happ
          rw [HPUT.out, HIN.out]
          rw [List.append_assoc] at this
          exact this
        have HFIN := Lib.hid hfin
        clear hS9 hD9 hr9 happ hfin
        go_wp2_with (at_builtin; refine wpList_append_run rfl (.tmp 41) (.tmp 44) 79 rfl _ _ rfl rfl hrun ?_)
        go_ret
        exact ⟨_, rfl, HFIN.out⟩
    · have d1 : ((i : Int) < (n : Int)) ↔ False := by simp; omega
      have hins := alIns_at (s.data.toList, at_) L1 i HB.out (fun q' hq' => by
        have := (List.getElem?_eq_some_iff.1 hq').1; have := HN1.out; omega) HNO.out (by have := HN1.out; omega)
      have HS := Lib.hid hS
      obtain ⟨_, ⟨hr, _⟩, _⟩ := hS.swap.fst.alloc (.cells #[.string s, .int .i64 at_] 97)
      have HR := Lib.hid hr
      have hlen2 : (L1.take i).length = i := by rw [List.length_take]; have := HN1.out; omega
      have HL2 := Lib.hid hlen2
      obtain ⟨p2, hsl, hp0, hpc⟩ := dir_slice (hD1r.out) HN1.out (show i ≤ n by omega)
      have HSL := Lib.hid (And.intro hp0 hpc)
      have HIN := Lib.hid hins
      clear hr hS hlen2 hp0 hpc hins
      go_upto_region 8 with (at_builtin; refine wpList_append_new rfl (.tmp 35) (.tmp 39) 79 rfl 97 i0 (.agg #[.string ⟨#[]⟩, .int .i64 0]) 2 24 Try.underlying79 hi hz0 hz1 hz2 rfl (by decide) _ _ _ rfl HR.out ⟨_, 0, none⟩ 1 1 [.string s, .int .i64 at_] rfl rfl (cell_made _ _ _ _ rfl) (by intro u hu; simp at hu; rcases hu with rfl | rfl <;> rfl) (by have := HL2.out; simp only [maxLen]; omega) (by have := HL2.out; omega) ?_; intro v9 w9 happ; have HAP := Lib.hid happ; clear happ)
      have hS9 : Has [] w w9 ((Part.nms (.slice rp n rc) L1).sep (.nms v9 (L1.take i ++ [(s.data.toList, at_)]))) := by
        obtain ⟨o', h', _, _, back⟩ := HS.out.right
        exact back _ _ (nms_app (p := (s.data.toList, at_)) h' (by have := HAP.out; exact this))
      have hD9 := hS9.fst.dirAt
      obtain ⟨qx, qm, qc, rfl⟩ : ∃ qx qm qc, v9 = .slice qx qm qc := by
        rcases hS9.swap.fst.dirAt with ⟨rfl, _⟩ | ⟨g, c, rfl, _⟩
        · exact ⟨_, _, _, rfl⟩
        · exact ⟨_, _, _, rfl⟩
      obtain ⟨_, ⟨hr9, _⟩, _⟩ := hS9.swap.fst
      obtain ⟨v8, w8, hrun, happ⟩ := run_append_nms (b := L1.drop i) (m := n - i) (k := rc - i) (p2 := p2) hr9 (by rw [List.length_drop, HN1.out]) HSL.out.1 (fun ad e j u hu => HSL.out.2 ad e w9 hD9 j u hu) (by
        have := HL2.out; have := HN1.out
        rw [List.length_append, List.length_drop]
        simp only [List.length_cons, List.length_nil]
        omega)
      have hfin : Has [] w w8 (.nms v8 (alPut l s.data.toList at_)) := by
        have := nms_apps hS9.swap.fst happ
        rw [HPUT.out, HIN.out]
        rw [List.append_assoc] at this
        exact this
      have HFIN := Lib.hid hfin
      clear hS9 hD9 hr9 happ hfin
      go_wp2_with (at_builtin; refine wpList_append_run rfl (.tmp 41) (.tmp 44) 79 rfl _ _ rfl rfl hrun ?_)
      go_ret
      exact ⟨_, rfl, HFIN.out⟩
end Go.Proofs.Ytbankfdgoolbdaa
namespace Go.Proofs.Ytbankfdgoolbdaa
open Go Go.RowKit Go.Lib
set_option linter.unusedVariables false
variable {o own : List Nat} {w0 w w' : World} {v : Value} {l l' : Dir}

def bar (s : Nm) : ByteArray := ⟨s.toArray⟩
def chgVals : Chg → Array Value
  | .mk s i => #[.string ⟨#[]⟩, .string (bar s), .int .i64 (i : Nat)]
  | .del s => #[.string (bar s), .string ⟨#[]⟩, .int .i64 0]
  | .ren s t => #[.string (bar s), .string (bar t), .int .i64 0]

theorem nm_full {s : Nm} (h : isNm s = true) : ((bar s).toList = [] ↔ False) ∧ ((bar s).toList == []) = false ∧ (bar s).toList.isEmpty = false := by
  have h1 : (bar s).toList = s := by rw [ByteArray.toList_eq]; rfl
  have h2 : s ≠ [] := by
    rintro rfl
    simp [isNm] at h
  rw [h1]
  refine ⟨by simpa using h2, by simpa using h2, ?_⟩
  cases s with
  | nil => exact absurd rfl h2
  | cons _ _ => rfl

set_option maxHeartbeats 4000000 in
set_option maxRecDepth 100000 in
theorem changed_walk (h : DirAt w v l) (hl : l.length ≤ 64) (c : Chg) (hc : c.on l = some l') (hnm : c.named) : Calls Try.prog 61 #[v, .agg (chgVals c)] w fun e w' => ∃ v', e = .returned v' ∧ Has [] w w' (.nms v' l') := by
  cases c with
  | mk s i =>
    have hnm : isNm s = true := hnm
    have hk : Kept [] w (w.alloc (.cells (chgVals (.mk s i)) 94)) := (Kept.refl _ _).alloc _
    have hW := (with_walk (h.kept hk (by simp)) (bar s) i hl).mono (R' := fun e w' => ∃ v', e = .returned v' ∧ Has [] w w' (.nms v' l')) (by
      rintro e w' ⟨v', rfl, h'⟩
      refine ⟨v', rfl, ?_⟩
      simp only [Chg.on] at hc
      split at hc
      · cases hc; exact h'.from hk
      · cases hc)
    have HW := Lib.hid hW
    obtain ⟨p, q, rfl, _⟩ := h.len
    clear hW hc h hk hl
    unfold chgVals at *
    generalize l.length = n at *
    go_enter Try.func61, Try.ntmps61
    go_wp2_with fail
    refine HW.out.mono ?_
    rintro e w1 ⟨v1, rfl, h1⟩
    have H1 := Lib.hid h1
    clear h1 HW
    go_wp2_with fail
    go_ret
    exact ⟨_, rfl, H1.out⟩
  | del s =>
    have hnm : isNm s = true := hnm
    obtain ⟨t1, t2, t3⟩ := nm_full hnm
    have hk : Kept [] w (w.alloc (.cells (chgVals (.del s)) 94)) := (Kept.refl _ _).alloc _
    have hW := (without_walk (h.kept hk (by simp)) (bar s) hl).mono (R' := fun e w' => ∃ v', e = .returned v' ∧ Has [] w w' (.nms v' l')) (by
      rintro e w' ⟨v', rfl, h'⟩
      refine ⟨v', rfl, ?_⟩
      cases hc; exact h'.from hk)
    have HW := Lib.hid hW
    obtain ⟨p, q, rfl, _⟩ := h.len
    clear hW hc h hk hl
    unfold chgVals at *
    generalize l.length = n at *
    go_enter Try.func61, Try.ntmps61
    go_wp2_with fail
    refine HW.out.mono ?_
    rintro e w1 ⟨v1, rfl, h1⟩
    have H1 := Lib.hid h1
    clear h1 HW
    go_wp2_with fail
    go_ret
    exact ⟨_, rfl, H1.out⟩
  | ren s t =>
    have hnm : isNm s = true ∧ isNm t = true := hnm
    obtain ⟨t1, t2, t3⟩ := nm_full hnm.1
    obtain ⟨t4, t5, t6⟩ := nm_full hnm.2
    simp only [Chg.on, Option.map_eq_some_iff] at hc
    obtain ⟨i, hf, rfl⟩ := hc
    have hk : Kept [] w (w.alloc (.cells (chgVals (.ren s t)) 94)) := (Kept.refl _ _).alloc _
    have hD := h.kept hk (by simp)
    have hF := find_walk hD (bar s)
    rw [show foundV l (bar s).data.toList = (i : Nat) by unfold foundV; rw [show (bar s).data.toList = s from rfl, hf]] at hF
    have HF := Lib.hid hF
    have HD := Lib.hid hD
    have HL := Lib.hid hl
    have HK := Lib.hid hk
    obtain ⟨p, q, rfl, _⟩ := h.len
    clear hF hf h hk hl hD hnm
    obtain ⟨X, hX⟩ : ∃ X, bar s = X := ⟨_, rfl⟩
    obtain ⟨Y, hY⟩ : ∃ Y, bar t = Y := ⟨_, rfl⟩
    have eX : X.data.toList = s := by rw [← hX]; rfl
    have eY : Y.data.toList = t := by rw [← hY]; rfl
    have HEX := Lib.hid eX
    have HEY := Lib.hid eY
    unfold chgVals at *
    simp only [hX, hY] at *
    clear hX hY eX eY
    generalize hN : l.length = n at *
    have HN := Lib.hid hN
    clear hN
    go_enter Try.func61, Try.ntmps61
    go_wp2_with fail
    generalize hW1 : (w.alloc (.cells #[.string X, .string Y, .int .i64 0] 94)) = W1 at *
    have c0 : W1.cell? ⟨w.heap.size, 0, none⟩ = some (.string X) := by rw [← hW1, World.cell?_alloc_mark]; rfl
    have c1 : W1.cell? ⟨w.heap.size, 1, none⟩ = some (.string Y) := by rw [← hW1, World.cell?_alloc_mark]; rfl
    generalize w.heap.size = fb at *
    clear hW1
    refine HF.out.mono ?_
    rintro e w1 ⟨rfl, rfl⟩
    clear HF
    have HWO := Lib.hid (fun (W : World) (k : Kept [] w1 W) => without_walk (HD.out.kept k (by simp)) X (by rw [HN.out]; exact HL.out))
    have HWI := Lib.hid (fun (W : World) (v' : Value) (o : List Nat) (w0 : World) (h : Has o w0 W (.nms v' (alDel l X.data.toList))) => with_walk h.dirAt Y i (by
      have := alDel_length l X.data.toList; have := HN.out; have := HL.out; omega))
    have hkd := (Kept.refl [] w1).drewN 1
    have c0 : w1.drew.cell? ⟨fb, 0, none⟩ = some (.string X) := hkd.cell c0 (by simp)
    have c1 : w1.drew.cell? ⟨fb, 1, none⟩ = some (.string Y) := hkd.cell c1 (by simp)
    change Kept [] w1 w1.drew at hkd
    go_wp2_with fail
    go_region_held3 (fun w' => w'.cell? ⟨fb, 0, none⟩ = some (.string X) ∧ w'.cell? ⟨fb, 1, none⟩ = some (.string Y))
      (first | exact ⟨c0, c1⟩ | exact ⟨k0, k1⟩ | exact ⟨k2, k3⟩ | go_keep)
      (first | (go_at_call 67
                refine (HWO.out w1.drew hkd).mono ?_
                rintro e w8 ⟨v8, rfl, h8⟩
                have k0 := h8.keeps.cell c0 (by simp)
                have k1 := h8.keeps.cell c1 (by simp))
             | (go_at_call 66
                refine (HWI.out w8 v8 _ _ h8).mono ?_
                rintro e w9 ⟨v9, rfl, h9⟩
                have k2 := h9.keeps.cell k0 (by simp)
                have k3 := h9.keeps.cell k1 (by simp)
                have hf := h9.from (HK.out.tr (hkd.tr h8.keeps))))
    go_wp2_with fail
    go_ret
    rw [HEX.out, HEY.out] at hf
    exact ⟨_, rfl, hf⟩
end Go.Proofs.Ytbankfdgoolbdaa
