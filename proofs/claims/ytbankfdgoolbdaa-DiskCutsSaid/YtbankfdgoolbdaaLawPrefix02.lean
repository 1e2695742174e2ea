/- DiskPrefix walked. -/
import Derived.Test.YtbankfdgoolbdaaDkWalks
import Derived.Test.YtbankfdgoolbdaaDkPrefix
namespace Go.Proofs.Ytbankfdgoolbdaa
open Go Go.RowKit Go.Lib
set_option linter.unusedVariables false
variable {w0 w w' : World} {db : Nat} {a : ADk}

theorem data_arr (u : List UInt8) : (⟨u.toArray⟩ : ByteArray).data.toList = u := rfl

theorem names_in (h : Has [] w0 w (Dk db a)) {l : List Nm} {n : Nat} (hl : a.names = l) (hn : l.length = n) : Calls Try.prog 19 #[ptr db] w fun e w' => ∃ p c, e = .returned (.slice p n c) ∧ n ≤ c ∧ NamesIn w' (.slice p n c) l ∧ Kept [] w w' := by
  subst hl hn
  refine (names_walk h).mono ?_
  rintro e w' ⟨v, rfl, h'⟩
  have hn := namesIn h'
  obtain ⟨p, c, e1, hc, _⟩ := id hn
  subst e1
  exact ⟨p, c, rfl, hc, hn, h'.keeps⟩

theorem read_in (h : Has [] w0 w (Dk db a)) (u : Nm) {x : List UInt8} {e : Int} (hr : a.read u = (x, e)) : Calls Try.prog 18 #[ptr db, .string ⟨u.toArray⟩] w fun r w' => ∃ v, r = .returned (.tuple #[v, .int .i64 e]) ∧ BytesAt w' v x ∧ Kept [] w w' := by
  refine (read_walk h ⟨u.toArray⟩).mono ?_
  rw [data_arr, hr]
  rintro r w' ⟨v, rfl, h'⟩
  exact ⟨v, rfl, bytesAt_part h', h'.keeps⟩

theorem crash_in (h : Has [] w0 w (Dk db a)) (k d t : Int) : Calls Try.prog 17 #[ptr db, .agg #[.int .i64 k, .int .i64 d, .int .i64 t]] w fun e w' => ∃ d2, e = .returned (.pointer (some ⟨d2, 0, none⟩)) ∧ Has [] w w' (Dk d2 (a.crash k d t)) := by
  refine (crash_walk h k d t).mono ?_
  rintro e w' ⟨d2, rfl, h'⟩
  exact ⟨d2, rfl, h'⟩

set_option maxHeartbeats 4000000 in
set_option maxRecDepth 100000 in
theorem prefix_law {s1 : Value} {n1 : Nat} {f1 : Nat → DOp} (h1 : OpsIn w s1 n1 f1) (x y d : Int) :
    Calls Try.prog 5 #[s1, .int .i64 x, .int .i64 y, .int .i64 d] w fun e w' => e = .returned (.bool true) ∧ Kept [] w w' := by
  have H1 := Lib.hid h1
  obtain ⟨p1, c1, hs1, hn1, _⟩ := h1
  subst hs1
  go_enter Try.func5, Try.ntmps5
  go_wp2_with fail
  refine (shown_walk _).mono ?_
  rintro e w3 ⟨rfl, hk3⟩
  have HK3 := Lib.hid hk3
  clear hk3
  go_wp2_with fail
  refine (new_walk _).mono ?_
  rintro e w4 ⟨db, rfl, _, h4⟩
  have HP := Lib.hid (play_walk (w0 := w) (m := 100) (h4.from HK3.out) H1.out (by omega))
  have hok1 := playN_ok ADk.new_ok f1 (min n1 100)
  have hl1 := playN_lit new_lit f1 (min n1 100)
  generalize playN f1 (min n1 100) ADk.new = q at *
  have HOK := Lib.hid hok1
  have HLT := Lib.hid hl1.1
  clear h4 hok1 hl1
  unfold ptr at HP ⊢
  go_wp2_with fail
  refine HP.out.mono ?_
  rintro e w5 ⟨rfl, h5⟩
  have H5 := Lib.hid h5
  clear HP h5
  obtain ⟨lo, hlo⟩ : ∃ lo, (if x > y then y else x) = lo := ⟨_, rfl⟩
  obtain ⟨hi, hhi⟩ : ∃ hi, (if x > y then x else y) = hi := ⟨_, rfl⟩
  have HLE := Lib.hid (show lo ≤ hi by rw [← hlo, ← hhi]; split <;> omega)
  have HLO := Lib.hid hlo
  have HHI := Lib.hid hhi
  clear hlo hhi
  go_upto_if 35 with fail
  go_cut [1, 2] from 33 (fun s1 s2 wx => s1 = .int .i64 lo ∧ s2 = .int .i64 hi ∧ wx = w5)
  case first =>
    by_cases hxy : x > y
    · have e1 := HLO.out
      have e2 := HHI.out
      rw [if_pos hxy] at e1 e2
      have d1 : (y < x) ↔ True := by simp; omega
      subst e1 e2
      go_wp2_with fail
      go_meet
      exact ⟨rfl, rfl, rfl⟩
    · have e1 := HLO.out
      have e2 := HHI.out
      rw [if_neg hxy] at e1 e2
      have d1 : (y < x) ↔ False := by simp; omega
      subst e1 e2
      go_wp2_with fail
      go_meet
      exact ⟨rfl, rfl, rfl⟩
  case rest =>
  obtain ⟨rfl, rfl, rfl⟩ := hcut
  obtain ⟨l, hdl, hnA, hnB, hread⟩ := prefix_reads HOK.out d HLE.out
  obtain ⟨hnW, hnQ, hreadW⟩ := whole_reads HOK.out HLT.out.1
  have HRD := Lib.hid hread
  have HRW := Lib.hid hreadW
  have HDL := Lib.hid hdl
  have HNA := Lib.hid (And.intro hnA (And.intro hnB (And.intro hnW hnQ)))
  have hll : l.length ≤ 64 := hdl.len
  have hlq : q.now.length ≤ 64 := HOK.out.now.len
  obtain ⟨n, hN⟩ : ∃ n, l.length = n := ⟨_, rfl⟩
  have hN2 : (l.map (·.1)).length = n := by rw [List.length_map]; exact hN
  rw [hN] at hll
  have HNN := Lib.hid hN
  have HN2 := Lib.hid hN2
  clear hdl hnA hnB hread hnW hnQ hreadW hN hN2
  -- the two crashes
  have HC := Lib.hid (crash_in H5.out lo d 0)
  unfold ptr at HC
  go_wp2_with fail
  refine HC.out.mono ?_
  rintro e w6 ⟨da, rfl, h6⟩
  have hD6 := H5.out.quiet h6.keeps
  have HC2 := Lib.hid (crash_in hD6 hi d 0)
  have HK5 := Lib.hid H5.out.keeps
  have HD6 := Lib.hid hD6
  have HA6 := Lib.hid (h6.from HK5.out)
  clear HC h6 hD6
  unfold ptr at HC2
  go_wp2_with fail
  refine HC2.out.mono ?_
  rintro e w7 ⟨dB, rfl, h7⟩
  have HK7 := Lib.hid (HD6.out.quiet h7.keeps).keeps
  have HD7 := Lib.hid (HD6.out.quiet h7.keeps)
  have HA7 := Lib.hid (HA6.out.quiet h7.keeps)
  have HB7 := Lib.hid (h7.from HD6.out.keeps)
  clear h7 HC2 HD6 HA6
  -- their names
  have HN := Lib.hid (names_in HA7.out HNA.out.1 HN2.out)
  unfold ptr at HN
  go_wp2_with fail
  refine HN.out.mono ?_
  rintro e w8 ⟨pa, ca, rfl, hca, hn8, k8⟩
  have HB8 := Lib.hid (HB7.out.quiet k8)
  have HK78 := Lib.hid k8
  have HN8 := Lib.hid hn8
  have HNB := Lib.hid (names_in HB8.out HNA.out.2.1 HN2.out)
  unfold ptr at HNB
  clear HN hn8 k8
  go_wp2_with fail
  refine HNB.out.mono ?_
  rintro e w9 ⟨pb, cb, rfl, hcb, hn9, k9⟩
  have hna9 := HN8.out.kept k9 (by simp)
  have HS := Lib.hid (same_walk hna9 hn9 (by rw [HN2.out]; omega))
  have HK79 := Lib.hid (HK78.out.tr k9)
  have HN9 := Lib.hid hna9
  clear HNB hn9 k9 hna9 HK78 HN8 HB8
  go_wp2_with fail
  refine HS.out.mono ?_
  rintro e w10 ⟨rfl, k10⟩
  have HN10 := Lib.hid (HN9.out.kept k10 (by simp))
  have HK10 := Lib.hid (HK79.out.tr k10)
  have HD10 := Lib.hid (HD7.out.quiet HK10.out)
  have HA10 := Lib.hid (HA7.out.quiet HK10.out)
  have HB10 := Lib.hid (HB7.out.quiet HK10.out)
  clear HS k10 HN9 HK79 HK10 HD7 HA7 HB7
  go_wp2_with fail
  go_loopg [15] n (fun kk iv wr => ∃ i : Nat, i ≤ n ∧ kk = n - i ∧ iv = .int .i64 i ∧ Kept [] w10 wr)
  case atStart => exact ⟨0, Nat.zero_le _, rfl, rfl, Kept.refl _ _⟩
  case round =>
    obtain ⟨i, hi', hkk, rfl, hK⟩ := hrel
    have HKK := Lib.hid hkk
    have HK := Lib.hid hK
    clear hkk
    by_cases hlt : i < n
    · have d1 : ((i : Int) < (n : Int)) ↔ True := by simp; omega
      have hil : i < l.length := by have := HNN.out; omega
      obtain ⟨xs, ys, hx, hy, hz, hyl⟩ := HRD.out i hil
      have hNr := HN10.out.kept hK (by simp)
      obtain ⟨_, _, e9, _, hc9⟩ := hNr
      obtain ⟨g, e8, _, c8⟩ := hc9 i _ (nm_getD hil)
      have e10 : pa = some ⟨g, 0, none⟩ := by injection e9 with e11 _ _; rw [e11]; exact e8
      subst e10
      have HX := Lib.hid (read_in (HA10.out.quiet hK) (nmAt l i) hx)
      unfold ptr at HX
      have hd : decide (i < n) = true := decide_eq_true hlt
      have hda : i < ca := by omega
      have HC8 := Lib.hid c8
      clear hc9 hK e9 e8 hx
      go_wp2_with fail
      refine HX.out.mono ?_
      rintro e w11 ⟨v1, rfl, hb1, k11⟩
      have HK11 := Lib.hid (HK.out.tr k11)
      have c8 := k11.cell HC8.out (by simp)
      have HY := Lib.hid (read_in (HB10.out.quiet HK11.out) (nmAt l i) hy)
      unfold ptr at HY
      have HB1 := Lib.hid hb1
      clear hb1 k11 HX hy
      go_wp2_with fail
      refine HY.out.mono ?_
      rintro e w12 ⟨v2, rfl, hb2, k12⟩
      have t1 := conv_strX (HB1.out.x.kept k12 (by simp))
      have t2 := conv_str hb2
      have HBG := Lib.hid (begins_walk hz hyl w12)
      have HK12 := Lib.hid (HK11.out.tr k12)
      clear hb2 k12 HY hz hyl
      go_wp2_with fail
      refine HBG.out.mono ?_
      rintro e w13 ⟨rfl, rfl⟩
      go_wp2_with fail
      go_roundg (n - (i + 1))
      case measure => rw [HKK.out]; omega
      case rel => exact ⟨i + 1, by omega, rfl, by go_num, HK12.out⟩
    · have d1 : ((i : Int) < (n : Int)) ↔ False := by simp; omega
      obtain rfl : i = n := by omega
      have HDr := Lib.hid (HD10.out.quiet hK)
      have HAr := Lib.hid (HA10.out.quiet hK)
      clear hK HD10 HA10 HB10 HN10 HRD
      have HC := Lib.hid (crash_in HDr.out 262144 65536 0)
      unfold ptr at HC
      go_wp2_with fail
      refine HC.out.mono ?_
      rintro e w11 ⟨dW, rfl, h11⟩
      have HD11 := Lib.hid (HDr.out.quiet h11.keeps)
      have HA11 := Lib.hid (HAr.out.quiet h11.keeps)
      have HW11 := Lib.hid (h11.from HDr.out.keeps)
      clear h11 HC HDr HAr
      obtain ⟨m, hM⟩ : ∃ m, q.now.length = m := ⟨_, rfl⟩
      have hM2 : (q.now.map (·.1)).length = m := by rw [List.length_map]; exact hM
      rw [hM] at hlq
      have HMM := Lib.hid hM
      have HM2 := Lib.hid hM2
      clear hM hM2
      have HN := Lib.hid (names_in HD11.out HNA.out.2.2.2 HM2.out)
      unfold ptr at HN
      go_wp2_with fail
      refine HN.out.mono ?_
      rintro e w12 ⟨pc, cc, rfl, hcc, hn12, k12⟩
      have HK12 := Lib.hid k12
      have HN12 := Lib.hid hn12
      have HNB := Lib.hid (names_in (HW11.out.quiet k12) HNA.out.2.2.1 HM2.out)
      unfold ptr at HNB
      clear HN hn12 k12
      go_wp2_with fail
      refine HNB.out.mono ?_
      rintro e w13 ⟨pd, cd, rfl, hcd, hn13, k13⟩
      have hna13 := HN12.out.kept k13 (by simp)
      have HS := Lib.hid (same_walk hna13 hn13 (by rw [HM2.out]; omega))
      have HK13 := Lib.hid (HK12.out.tr k13)
      have HN13 := Lib.hid hna13
      clear HNB hn13 k13 hna13 HK12 HN12
      go_wp2_with fail
      refine HS.out.mono ?_
      rintro e w14 ⟨rfl, k14⟩
      have HN14 := Lib.hid (HN13.out.kept k14 (by simp))
      have HK14 := Lib.hid (HK13.out.tr k14)
      have HD14 := Lib.hid (HD11.out.quiet HK14.out)
      have HA14 := Lib.hid (HA11.out.quiet HK14.out)
      have HW14 := Lib.hid (HW11.out.quiet HK14.out)
      clear HS k14 HN13 HK13 HK14 HD11 HA11 HW11
      clear hi' HK hlt d1
      go_wp2_with fail
      go_loopg [22, 23] m (fun kk bv iv wq => ∃ i : Nat, i ≤ m ∧ kk = m - i ∧ bv = .bool true ∧ iv = .int .i64 i ∧ Kept [] w14 wq)
      case atStart => exact ⟨0, Nat.zero_le _, rfl, rfl, rfl, Kept.refl _ _⟩
      case round =>
        obtain ⟨j, hj', hkk, rfl, rfl, hK⟩ := hrel
        have HKJ := Lib.hid hkk
        have HK := Lib.hid hK
        clear hkk
        by_cases hlt : j < m
        · have d1 : ((j : Int) < (m : Int)) ↔ True := by simp; omega
          have hil : j < q.now.length := by have := HMM.out; omega
          obtain ⟨xs, hx, hy, hyl⟩ := HRW.out j hil
          have hNr := HN14.out.kept hK (by simp)
          obtain ⟨_, _, e9, _, hc9⟩ := hNr
          obtain ⟨g, e8, _, c8⟩ := hc9 j _ (nm_getD hil)
          have e10 : pc = some ⟨g, 0, none⟩ := by injection e9 with e11 _ _; rw [e11]; exact e8
          subst e10
          have HX := Lib.hid (read_in (HD14.out.quiet hK) (nmAt q.now j) hx)
          unfold ptr at HX
          have hd : decide (j < m) = true := decide_eq_true hlt
          have hda : j < cc := by omega
          have HC8 := Lib.hid c8
          clear hc9 hK e9 e8 hx hyl
          go_wp2_with fail
          refine HX.out.mono ?_
          rintro e w15 ⟨v1, rfl, hb1, k15⟩
          have HK15 := Lib.hid (HK.out.tr k15)
          have c8 := k15.cell HC8.out (by simp)
          have HY := Lib.hid (read_in (HW14.out.quiet HK15.out) (nmAt q.now j) hy)
          unfold ptr at HY
          have HB1 := Lib.hid hb1
          clear hb1 k15 HX hy
          go_wp2_with fail
          refine HY.out.mono ?_
          rintro e w16 ⟨v2, rfl, hb2, k16⟩
          have t1 := conv_strX (HB1.out.x.kept k16 (by simp))
          have t2 := conv_str hb2
          have HK16 := Lib.hid (HK15.out.tr k16)
          clear hb2 k16 HY
          go_wp2_with fail
          go_roundg (m - (j + 1))
          case measure => rw [HKJ.out]; omega
          case rel => exact ⟨j + 1, by omega, rfl, rfl, by go_num, HK16.out⟩
        · have d1 : ((j : Int) < (m : Int)) ↔ False := by simp; omega
          obtain rfl : j = m := by omega
          have HO := Lib.hid ((ops_walk (HA14.out.quiet hK)).mono (R' := fun e w' => e = .returned (.int .i64 0) ∧ Kept [] w w') (by
            rintro e w' ⟨rfl, k'⟩
            exact ⟨rfl, (HA14.out.quiet hK).keeps.tr k'⟩))
          unfold ptr at HO
          clear hK
          go_wp2_with fail
          refine HO.out.mono ?_
          rintro e w17 ⟨rfl, k17⟩
          have HK17 := Lib.hid k17
          clear k17
          go_wp2_with fail
          go_ret
          exact ⟨rfl, HK17.out⟩
end Go.Proofs.Ytbankfdgoolbdaa
