/- DiskCuts walked. -/
import Derived.Test.YtbankfdgoolbdaaLawLasts02
import Derived.Test.YtbankfdgoolbdaaLawPrefix02
import Derived.Test.YtbankfdgoolbdaaDkPlayR
namespace Go.Proofs.Ytbankfdgoolbdaa
open Go Go.RowKit Go.Lib
set_option linter.unusedVariables false
variable {w0 w w' : World} {db : Nat} {a : ADk}

def nmX : ByteArray := ⟨#[120]⟩
theorem dark_append {at_ : Int} {a c : ADk} (h : CutsAt at_ a c) (h0 : 0 ≤ at_) (hge : at_ ≤ (a.ops : Int)) (s : Nm) (b : List UInt8) : a.append s b = (24, a.powered) := by
  have := (h.dark h0 hge false [s]).1
  unfold ADk.append
  simp only [this]
  rfl
theorem dark_syncDir {at_ : Int} {a c : ADk} (h : CutsAt at_ a c) (h0 : 0 ≤ at_) (hge : at_ ≤ (a.ops : Int)) : a.syncDir.1 = 24 := by
  have := (h.dark h0 hge false []).1
  unfold ADk.syncDir
  simp only [this]
  rfl
theorem dark_sync_ops {at_ : Int} {a c : ADk} (h : CutsAt at_ a c) (h0 : 0 ≤ at_) (hge : at_ ≤ (a.ops : Int)) : a.syncDir.2.ops = a.ops := by
  have := (h.dark h0 hge false []).1
  unfold ADk.syncDir
  simp only [this]
  rfl
theorem dark_read {a : ADk} (h : a.off = true) (s : Nm) : a.read s = ([], 24) := by
  unfold ADk.read
  rw [if_pos h]

theorem cuts_reads {a : ADk} (hok : a.Ok) (k d t : Int) : ∃ l : Dir, DirOk a l ∧ (a.crash k d t).names = l.map (·.1) ∧
    ∀ j, j < l.length → ∃ x : List UInt8, (a.crash k d t).read (nmAt l j) = (x, 0) := by
  obtain ⟨l, hl, hd⟩ := hok.prefix d.toNat
  exact ⟨l, hd, crash_names hl _ _, fun j hj => ⟨_, crash_read hl hd k t hj⟩⟩

/-- Where the second disk stops. -/
theorem cuts_all {at_ : Int} (h0 : 0 ≤ at_) (f : Nat → DOp) {i n : Nat} (hin : i ≤ n) (h : stopsAt at_ f i) (hend : i = n ∨ at_ ≤ ((playN f i ADk.new).ops : Int)) : CutsAt at_ (playN f n (ADk.new.cutAt at_)) (playN f i ADk.new) := by
  rcases hend with rfl | hge
  · exact cuts_same h0 f h
  · have := cuts_more h0 f h hge (n - i)
    rwa [Nat.add_sub_cancel' hin] at this

set_option maxHeartbeats 4000000 in
set_option maxRecDepth 100000 in
theorem cuts_law {s1 : Value} {n1 : Nat} {f1 : Nat → DOp} (h1 : OpsIn w s1 n1 f1) (x : Int) (k d t : Int) :
    Calls Try.prog 6 #[s1, .int .i64 x, FateV k d t] w fun e w' => e = .returned (.bool true) ∧ Kept [] w w' := by
  have H1 := Lib.hid h1
  obtain ⟨p1, c1, hs1, hn1, hm1, hft1, _⟩ := h1
  subst hs1
  have HFT := Lib.hid hft1
  clear hft1
  have hk0 : Kept [] w (w.alloc (.cells #[.int .i64 k, .int .i64 d, .int .i64 t] 29)) := (Kept.refl _ _).alloc _
  have c0 : (w.alloc (.cells #[.int .i64 k, .int .i64 d, .int .i64 t] 29)).cell? ⟨w.heap.size, 0, none⟩ = some (.int .i64 k) := by rw [World.cell?_alloc_mark]; rfl
  have c1' : (w.alloc (.cells #[.int .i64 k, .int .i64 d, .int .i64 t] 29)).cell? ⟨w.heap.size, 1, none⟩ = some (.int .i64 d) := by rw [World.cell?_alloc_mark]; rfl
  have c2 : (w.alloc (.cells #[.int .i64 k, .int .i64 d, .int .i64 t] 29)).cell? ⟨w.heap.size, 2, none⟩ = some (.int .i64 t) := by rw [World.cell?_alloc_mark]; rfl
  have HH1 := Lib.hid (H1.out.kept hk0)
  have HK0 := Lib.hid hk0
  have HFC := Lib.hid (And.intro c0 (And.intro c1' c2))
  clear hk0 c0 c1' c2 H1
  unfold FateV
  go_enter Try.func6, Try.ntmps6
  go_wp2_with fail
  generalize (w.alloc (.cells #[.int .i64 k, .int .i64 d, .int .i64 t] 29)) = W at *
  generalize w.heap.size = fb at *
  refine (shown_walk _).mono ?_
  rintro e w3 ⟨rfl, hk3⟩
  have HK3 := Lib.hid hk3
  clear hk3
  go_wp2_with fail
  refine (new_walk _).mono ?_
  rintro e w4 ⟨db, rfl, _, h4⟩
  have H4 := Lib.hid (h4.from HK3.out)
  clear h4 HK3
  unfold ptr
  go_wp2_with fail
  refine (new_walk _).mono ?_
  rintro e w5 ⟨dc, rfl, _, h5⟩
  have H5 := Lib.hid (H4.out.beside h5)
  clear h5 H4
  obtain ⟨at_, hat⟩ : ∃ at_, (if x < 0 then 0 else x) = at_ := ⟨_, rfl⟩
  have h0 : 0 ≤ at_ := by rw [← hat]; split <;> omega
  have HAT := Lib.hid hat
  clear hat
  unfold ptr
  go_upto_if 27 with fail
  go_cut [1] from 26 (fun s1 wx => s1 = .int .i64 at_ ∧ wx = w5)
  case first =>
    by_cases hx : x < 0
    · have e1 := HAT.out
      rw [if_pos hx] at e1
      have d1 : (x < 0) ↔ True := by simp; omega
      subst e1
      go_wp2_with fail
      go_meet
      exact ⟨rfl, rfl⟩
    · have e1 := HAT.out
      rw [if_neg hx] at e1
      have d1 : (x < 0) ↔ False := by simp; omega
      subst e1
      go_wp2_with fail
      go_meet
      exact ⟨rfl, rfl⟩
  case rest =>
  obtain ⟨rfl, rfl⟩ := hcut
  obtain ⟨kk, hkk⟩ : ∃ kk, min n1 150 = kk := ⟨_, rfl⟩
  have hkn : kk ≤ n1 := by omega
  have hkm : kk ≤ 150 := by omega
  have HKK := Lib.hid hkk
  clear hkk
  obtain ⟨o6, h6, _, _, back6⟩ := H5.out.left
  have HC := Lib.hid ((cutAt_walk h6 at_).mono (R' := fun e w' => e = .returned (.tuple #[]) ∧ Has [] W w' ((Dk db (ADk.new.cutAt at_)).sep (Dk dc ADk.new))) (by
    rintro e w' ⟨rfl, h'⟩
    exact ⟨rfl, back6 _ _ h'⟩))
  clear h6 back6 H5
  unfold ptr at HC
  go_wp2_with fail
  refine HC.out.mono ?_
  rintro e w6 ⟨rfl, h6⟩
  have HP := Lib.hid (play_sep (m := 150) h6 HH1.out (by omega))
  rw [HKK.out] at HP
  clear h6 HC
  unfold ptr at HP
  go_wp2_with fail
  refine HP.out.mono ?_
  rintro e w7 ⟨rfl, h7⟩
  have H7 := Lib.hid h7
  clear h7 HP
  go_wp2_with fail
  go_loopg [10] kk (fun g iv wr => ∃ i : Nat, i ≤ kk ∧ g = kk - i ∧ iv = .int .i64 i ∧ stopsAt at_ f1 i ∧ Has [] W wr ((Dk db (playN f1 kk (ADk.new.cutAt at_))).sep (Dk dc (playN f1 i ADk.new))))
  case atStart => exact ⟨0, Nat.zero_le _, rfl, rfl, (fun j hj => by omega), H7.out⟩
  case round =>
    obtain ⟨i, hi, hg, rfl, hst, hW⟩ := hrel
    have HG := Lib.hid hg
    have HST := Lib.hid hst
    have HW := Lib.hid hW
    clear hg H7
    by_cases hlt : i < kk
    · have d1 : ((i : Int) < (n1 : Int)) ↔ True := by simp; omega
      have d2 : ((i : Int) < 150) ↔ True := by simp; omega
      by_cases hop : ((playN f1 i ADk.new).ops : Int) < at_
      · have d3 : (((playN f1 i ADk.new).ops : Int) < at_) ↔ True := by simp; omega
        have hst' : stopsAt at_ f1 (i + 1) := fun j hj => by
          by_cases e : j = i
          · subst e; exact hop
          · exact hst j (by omega)
        have HST' := Lib.hid hst'
        have HO := Lib.hid (ops_walk hW.swap.fst)
        have hin : i < n1 := by omega
        obtain ⟨b, off, rfl, _, hS1⟩ := HH1.out.one hin _ _ rfl
        have HS := Lib.hid hS1
        have hdx : decide (i < n1) = true := decide_eq_true hin
        have hcc : i < c1 := by omega
        obtain ⟨qo, hqo⟩ : ∃ qo, (playN f1 i ADk.new).ops = qo := ⟨_, rfl⟩
        rw [hqo] at HO d3
        unfold ptr at HO
        clear hst hop hst' hS1 hW hqo
        go_wp2_with fail
        refine HO.out.mono ?_
        rintro e w8 ⟨rfl, k8⟩
        have HP := Lib.hid ((play_sep (m := 1) (HW.out.quiet k8).swap HS.out (by omega)).mono (R' := fun e w' => e = .returned (.tuple #[]) ∧ Has [] W w' ((Dk db (playN f1 kk (ADk.new.cutAt at_))).sep (Dk dc (playN f1 (i + 1) ADk.new)))) (by
          rintro e w' ⟨rfl, h'⟩
          exact ⟨rfl, h'.swap⟩))
        unfold ptr at HP
        clear k8 HO
        go_wp2_with fail
        refine HP.out.mono ?_
        rintro e w9 ⟨rfl, h9⟩
        have H9 := Lib.hid h9
        clear h9 HP
        go_wp2_with fail
        go_roundg (kk - (i + 1))
        case measure => rw [HG.out]; omega
        case rel => exact ⟨i + 1, by omega, rfl, by go_num, HST'.out, H9.out⟩
      · have hcA := cuts_all h0 f1 (n := kk) (by omega) hst (.inr (by omega))
        have HEND := Lib.hid (show at_ ≤ ((playN f1 kk (ADk.new.cutAt at_)).ops : Int) by rw [hcA.like.ops]; omega)
        clear hop hst hW
        rw [show (playN f1 kk (ADk.new.cutAt at_)).ops = (playN f1 kk (ADk.new.cutAt at_)).ops from rfl] at HEND
        have hokA := playN_ok (ADk.cutAt_ok ADk.new_ok at_) f1 kk
        have hokC := playN_ok ADk.new_ok f1 i
        have HLIKE := Lib.hid hcA.like
        have HCA := Lib.hid hcA
        have hops : (playN f1 i ADk.new).ops = (playN f1 kk (ADk.new.cutAt at_)).ops := hcA.like.ops.symm
        have hle := hcA.le
        have hcrash := hcA.like.crash k d t
        generalize playN f1 kk (ADk.new.cutAt at_) = A at *
        generalize playN f1 i ADk.new = C at *
        obtain ⟨l, hdl, hnA, hread⟩ := cuts_reads hokA k d t
        have hnC : (C.crash k d t).names = l.map (·.1) := by rw [← hcrash]; exact hnA
        have hreadC : ∀ j, j < l.length → ∃ x : List UInt8, (A.crash k d t).read (nmAt l j) = (x, 0) ∧ (C.crash k d t).read (nmAt l j) = (x, 0) := by
          rw [← hcrash]
          exact fun j hj => (hread j hj).imp fun x hx => ⟨hx, hx⟩
        have hll : l.length ≤ 64 := hdl.len
        obtain ⟨n, hN⟩ : ∃ n, l.length = n := ⟨_, rfl⟩
        have hN2 : (l.map (·.1)).length = n := by rw [List.length_map]; exact hN
        rw [hN] at hll
        have HNN := Lib.hid hN
        have HN2 := Lib.hid hN2
        have HRD := Lib.hid hreadC
        have HNA := Lib.hid (And.intro hnA hnC)
        have HOP := Lib.hid hops
        obtain ⟨p, hp⟩ : ∃ p, A.ops = p := ⟨_, rfl⟩
        rw [hp] at hle hops
        have HPP := Lib.hid hp
        have d8 : (at_ < (p : Int)) ↔ False := by simp; omega
        have HOC := Lib.hid (ops_walk HW.out.swap.fst)
        rw [hops] at HOC
        unfold ptr at HOC
        have d7 : ((p : Int) < at_) ↔ False := by have := HEND.out; simp; omega
        clear hN hN2 hcrash hnA hnC hread hreadC hdl hokA hokC hcA hp
        go_wp2_with fail
        refine HOC.out.mono ?_
        rintro e w77 ⟨rfl, k77⟩
        have HWO := Lib.hid (HW.out.quiet k77)
        clear k77 HOC HW
        have HO1 := Lib.hid (ops_walk HWO.out.fst)
        rw [HPP.out] at HO1
        unfold ptr at HO1
        go_wp2_with fail
        refine HO1.out.mono ?_
        rintro e w8 ⟨rfl, k8⟩
        have HO2 := Lib.hid (ops_walk (HWO.out.quiet k8).swap.fst)
        rw [hops] at HO2
        unfold ptr at HO2
        have HW8 := Lib.hid (HWO.out.quiet k8)
        clear k8 HO1
        go_wp2_with fail
        refine HO2.out.mono ?_
        rintro e w9 ⟨rfl, k9⟩
        have HO1 := Lib.hid (ops_walk (HW8.out.quiet k9).fst)
        rw [HPP.out] at HO1
        unfold ptr at HO1
        have HW9 := Lib.hid (HW8.out.quiet k9)
        clear k9 HO2 HW8
        go_wp2_with fail
        refine HO1.out.mono ?_
        rintro e w10 ⟨rfl, k10⟩
        have HW10 := Lib.hid (HW9.out.quiet k10)
        clear k10 HO1 HW9
        have c0 : w10.cell? ⟨fb, 0, none⟩ = _ := HW10.out.keeps.cell HFC.out.1 (by simp)
        have c1' : w10.cell? ⟨fb, 1, none⟩ = _ := HW10.out.keeps.cell HFC.out.2.1 (by simp)
        have c2' : w10.cell? ⟨fb, 2, none⟩ = _ := HW10.out.keeps.cell HFC.out.2.2 (by simp)
        have HC := Lib.hid (crash_in HW10.out.fst k d t)
        unfold ptr at HC
        go_wp2_with fail
        refine HC.out.mono ?_
        rintro e w11 ⟨dX, rfl, h11⟩
        have HW11 := Lib.hid (HW10.out.quiet h11.keeps)
        have HX11 := Lib.hid (h11.from HW10.out.keeps)
        have c0 : w11.cell? ⟨fb, 0, none⟩ = _ := HW11.out.keeps.cell HFC.out.1 (by simp)
        have c1' : w11.cell? ⟨fb, 1, none⟩ = _ := HW11.out.keeps.cell HFC.out.2.1 (by simp)
        have c2' : w11.cell? ⟨fb, 2, none⟩ = _ := HW11.out.keeps.cell HFC.out.2.2 (by simp)
        have HC2 := Lib.hid (crash_in HW11.out.swap.fst k d t)
        unfold ptr at HC2
        clear h11 HC HW10
        go_wp2_with fail
        refine HC2.out.mono ?_
        rintro e w12 ⟨dY, rfl, h12⟩
        have HW12 := Lib.hid (HW11.out.quiet h12.keeps)
        have HX12 := Lib.hid (HX11.out.quiet h12.keeps)
        have HY12 := Lib.hid (h12.from HW11.out.keeps)
        clear h12 HC2 HW11 HX11 c0 c1' c2'
        have HN := Lib.hid (names_in HX12.out HNA.out.1 HN2.out)
        unfold ptr at HN
        go_wp2_with fail
        refine HN.out.mono ?_
        rintro e w13 ⟨pa, ca, rfl, hca, hn13, k13⟩
        have HK13 := Lib.hid k13
        have HN13 := Lib.hid hn13
        have HNB := Lib.hid (names_in (HY12.out.quiet k13) HNA.out.2 HN2.out)
        unfold ptr at HNB
        clear HN hn13 k13
        go_wp2_with fail
        refine HNB.out.mono ?_
        rintro e w14 ⟨pb, cb, rfl, hcb, hn14, k14⟩
        have hna14 := HN13.out.kept k14 (by simp)
        have HS := Lib.hid (same_walk hna14 hn14 (by rw [HN2.out]; omega))
        have HK14 := Lib.hid (HK13.out.tr k14)
        have HN14 := Lib.hid hna14
        clear HNB hn14 k14 hna14 HK13 HN13
        go_wp2_with fail
        refine HS.out.mono ?_
        rintro e w15 ⟨rfl, k15⟩
        have HN15 := Lib.hid (HN14.out.kept k15 (by simp))
        have HK15 := Lib.hid (HK14.out.tr k15)
        have HW15 := Lib.hid (HW12.out.quiet HK15.out)
        have HX15 := Lib.hid (HX12.out.quiet HK15.out)
        have HY15 := Lib.hid (HY12.out.quiet HK15.out)
        clear HS k15 HN14 HK14 HK15 HW12 HX12 HY12
        go_wp2_with fail
        go_loopg [14, 15] n (fun g bv iv wq => ∃ j : Nat, j ≤ n ∧ g = n - j ∧ bv = .bool true ∧ iv = .int .i64 j ∧ Kept [] w15 wq)
        case atStart => exact ⟨0, Nat.zero_le _, rfl, rfl, rfl, Kept.refl _ _⟩
        case round =>
          obtain ⟨j, hj', hkk, rfl, rfl, hK⟩ := hrel
          have HKJ := Lib.hid hkk
          have HK := Lib.hid hK
          clear hkk
          by_cases hlt : j < n
          · have d1 : ((j : Int) < (n : Int)) ↔ True := by simp; omega
            have hil : j < l.length := by have := HNN.out; omega
            obtain ⟨xs, hx, hy⟩ := HRD.out j hil
            have hNr := HN15.out.kept hK (by simp)
            obtain ⟨_, _, e9, _, hc9⟩ := hNr
            obtain ⟨g, e8, _, c8⟩ := hc9 j _ (nm_getD hil)
            have e10 : pa = some ⟨g, 0, none⟩ := by injection e9 with e11 _ _; rw [e11]; exact e8
            subst e10
            have HX := Lib.hid (read_in (HX15.out.quiet hK) (nmAt l j) hx)
            unfold ptr at HX
            have hd : decide (j < n) = true := decide_eq_true hlt
            have hda : j < ca := by omega
            have HC8 := Lib.hid c8
            clear hc9 hK e9 e8 hx
            go_wp2_with fail
            refine HX.out.mono ?_
            rintro e w16 ⟨v1, rfl, hb1, k16⟩
            have HK16 := Lib.hid (HK.out.tr k16)
            have c8 := k16.cell HC8.out (by simp)
            have HY := Lib.hid (read_in (HY15.out.quiet HK16.out) (nmAt l j) hy)
            unfold ptr at HY
            have HB1 := Lib.hid hb1
            clear hb1 k16 HX hy
            go_wp2_with fail
            refine HY.out.mono ?_
            rintro e w17 ⟨v2, rfl, hb2, k17⟩
            have t1 := conv_strX (HB1.out.x.kept k17 (by simp))
            have t2 := conv_str hb2
            have HK17 := Lib.hid (HK16.out.tr k17)
            clear hb2 k17 HY
            go_wp2_with fail
            go_roundg (n - (j + 1))
            case measure => rw [HKJ.out]; omega
            case rel => exact ⟨j + 1, by omega, rfl, rfl, by go_num, HK17.out⟩
          · have d1 : ((j : Int) < (n : Int)) ↔ False := by simp; omega
            obtain rfl : j = n := by omega
            have HWr := Lib.hid (HW15.out.quiet hK)
            clear hK HK HW15 HX15 HY15 HN15
            have HO1 := Lib.hid (ops_walk HWr.out.fst)
            rw [HPP.out] at HO1
            unfold ptr at HO1
            go_wp2_with fail
            refine HO1.out.mono ?_
            rintro e w18 ⟨rfl, k18⟩
            have HW18 := Lib.hid (HWr.out.quiet k18)
            clear k18 HO1 HWr
            by_cases hpa : (p : Int) < at_
            · exact absurd hpa (by have := HEND.out; have := HPP.out; omega)
            · have d9 : ((p : Int) < at_) ↔ False := by simp; omega
              have hge : at_ ≤ (A.ops : Int) := by rw [HPP.out]; omega
              have hpe : at_ = (p : Int) := by omega
              have hda := (HCA.out.dark h0 hge false []).2
              have HA := Lib.hid ((append_sep HW18.out nmX (bytes_none _).x).mono (R' := fun e w' => e = .returned (.int .i64 24) ∧ Has [] W w' ((Dk db A.powered).sep (Dk dc C))) (by
                rw [dark_append HCA.out h0 hge]
                exact fun e w' h => h))
              have HDA := Lib.hid hda
              have HPE := Lib.hid hpe
              have HGE := Lib.hid hge
              clear hda hpe hge hpa HW18
              unfold ptr nmX at HA
              go_wp2_with fail
              refine HA.out.mono ?_
              rintro e w19 ⟨rfl, h19⟩
              have H19 := Lib.hid h19
              have HR := Lib.hid (read_in h19.fst nmX.data.toList (dark_read HDA.out.2 _))
              unfold ptr nmX at HR
              clear h19 HA
              go_wp2_with fail
              refine HR.out.mono ?_
              rintro e w20 ⟨v3, rfl, _, k20⟩
              have HS := Lib.hid ((syncDir_sep (H19.out.quiet k20)).mono (R' := fun e w' => e = .returned (.int .i64 24) ∧ Has [] W w' ((Dk db A.powered.syncDir.2).sep (Dk dc C))) (by
                rw [dark_syncDir HDA.out.1 h0 HGE.out]
                exact fun e w' h => h))
              unfold ptr at HS
              clear k20 HR H19
              go_wp2_with fail
              refine HS.out.mono ?_
              rintro e w21 ⟨rfl, h21⟩
              have HO1 := Lib.hid (ops_walk h21.fst)
              have hpo : A.powered.syncDir.2.ops = p := by rw [dark_sync_ops HDA.out.1 h0 HGE.out]; exact HPP.out
              rw [hpo] at HO1
              unfold ptr at HO1
              have HKE := Lib.hid (HK0.out.tr h21.keeps)
              have hpe2 : ((p : Int) == at_) = true := by rw [HPE.out]; simp
              have hpe3 : ((p : Int) = at_) ↔ True := by rw [HPE.out]; simp
              clear h21 HS hpo
              go_wp2_with fail
              refine HO1.out.mono ?_
              rintro e w22 ⟨rfl, k22⟩
              have HKF := Lib.hid (HKE.out.tr k22)
              clear k22 HO1
              go_wp2_with fail
              go_ret
              exact ⟨rfl, HKF.out⟩
    · obtain rfl : i = kk := by omega
      have hcA := cuts_all h0 f1 (Nat.le_refl i) hst (.inl rfl)
      clear hst hW
      by_cases hn : i < n1
      · have d1 : ((i : Int) < (n1 : Int)) ↔ True := by simp; omega
        have d2 : ((i : Int) < 150) ↔ False := by have := HKK.out; simp; omega
        have hokA := playN_ok (ADk.cutAt_ok ADk.new_ok at_) f1 i
        have hokC := playN_ok ADk.new_ok f1 i
        have HLIKE := Lib.hid hcA.like
        have HCA := Lib.hid hcA
        have hops : (playN f1 i ADk.new).ops = (playN f1 i (ADk.new.cutAt at_)).ops := hcA.like.ops.symm
        have hle := hcA.le
        have hcrash := hcA.like.crash k d t
        generalize playN f1 i (ADk.new.cutAt at_) = A at *
        generalize playN f1 i ADk.new = C at *
        obtain ⟨l, hdl, hnA, hread⟩ := cuts_reads hokA k d t
        have hnC : (C.crash k d t).names = l.map (·.1) := by rw [← hcrash]; exact hnA
        have hreadC : ∀ j, j < l.length → ∃ x : List UInt8, (A.crash k d t).read (nmAt l j) = (x, 0) ∧ (C.crash k d t).read (nmAt l j) = (x, 0) := by
          rw [← hcrash]
          exact fun j hj => (hread j hj).imp fun x hx => ⟨hx, hx⟩
        have hll : l.length ≤ 64 := hdl.len
        obtain ⟨n, hN⟩ : ∃ n, l.length = n := ⟨_, rfl⟩
        have hN2 : (l.map (·.1)).length = n := by rw [List.length_map]; exact hN
        rw [hN] at hll
        have HNN := Lib.hid hN
        have HN2 := Lib.hid hN2
        have HRD := Lib.hid hreadC
        have HNA := Lib.hid (And.intro hnA hnC)
        have HOP := Lib.hid hops
        obtain ⟨p, hp⟩ : ∃ p, A.ops = p := ⟨_, rfl⟩
        rw [hp] at hle hops
        have HPP := Lib.hid hp
        have d8 : (at_ < (p : Int)) ↔ False := by simp; omega
        clear hN hN2 hcrash hnA hnC hread hreadC hdl hokA hokC hcA hp
        have HO1 := Lib.hid (ops_walk HW.out.fst)
        rw [HPP.out] at HO1
        unfold ptr at HO1
        go_wp2_with fail
        refine HO1.out.mono ?_
        rintro e w8 ⟨rfl, k8⟩
        have HO2 := Lib.hid (ops_walk (HW.out.quiet k8).swap.fst)
        rw [hops] at HO2
        unfold ptr at HO2
        have HW8 := Lib.hid (HW.out.quiet k8)
        clear k8 HO1
        go_wp2_with fail
        refine HO2.out.mono ?_
        rintro e w9 ⟨rfl, k9⟩
        have HO1 := Lib.hid (ops_walk (HW8.out.quiet k9).fst)
        rw [HPP.out] at HO1
        unfold ptr at HO1
        have HW9 := Lib.hid (HW8.out.quiet k9)
        clear k9 HO2 HW8
        go_wp2_with fail
        refine HO1.out.mono ?_
        rintro e w10 ⟨rfl, k10⟩
        have HW10 := Lib.hid (HW9.out.quiet k10)
        clear k10 HO1 HW9
        have c0 : w10.cell? ⟨fb, 0, none⟩ = _ := HW10.out.keeps.cell HFC.out.1 (by simp)
        have c1' : w10.cell? ⟨fb, 1, none⟩ = _ := HW10.out.keeps.cell HFC.out.2.1 (by simp)
        have c2' : w10.cell? ⟨fb, 2, none⟩ = _ := HW10.out.keeps.cell HFC.out.2.2 (by simp)
        have HC := Lib.hid (crash_in HW10.out.fst k d t)
        unfold ptr at HC
        go_wp2_with fail
        refine HC.out.mono ?_
        rintro e w11 ⟨dX, rfl, h11⟩
        have HW11 := Lib.hid (HW10.out.quiet h11.keeps)
        have HX11 := Lib.hid (h11.from HW10.out.keeps)
        have c0 : w11.cell? ⟨fb, 0, none⟩ = _ := HW11.out.keeps.cell HFC.out.1 (by simp)
        have c1' : w11.cell? ⟨fb, 1, none⟩ = _ := HW11.out.keeps.cell HFC.out.2.1 (by simp)
        have c2' : w11.cell? ⟨fb, 2, none⟩ = _ := HW11.out.keeps.cell HFC.out.2.2 (by simp)
        have HC2 := Lib.hid (crash_in HW11.out.swap.fst k d t)
        unfold ptr at HC2
        clear h11 HC HW10
        go_wp2_with fail
        refine HC2.out.mono ?_
        rintro e w12 ⟨dY, rfl, h12⟩
        have HW12 := Lib.hid (HW11.out.quiet h12.keeps)
        have HX12 := Lib.hid (HX11.out.quiet h12.keeps)
        have HY12 := Lib.hid (h12.from HW11.out.keeps)
        clear h12 HC2 HW11 HX11 c0 c1' c2'
        have HN := Lib.hid (names_in HX12.out HNA.out.1 HN2.out)
        unfold ptr at HN
        go_wp2_with fail
        refine HN.out.mono ?_
        rintro e w13 ⟨pa, ca, rfl, hca, hn13, k13⟩
        have HK13 := Lib.hid k13
        have HN13 := Lib.hid hn13
        have HNB := Lib.hid (names_in (HY12.out.quiet k13) HNA.out.2 HN2.out)
        unfold ptr at HNB
        clear HN hn13 k13
        go_wp2_with fail
        refine HNB.out.mono ?_
        rintro e w14 ⟨pb, cb, rfl, hcb, hn14, k14⟩
        have hna14 := HN13.out.kept k14 (by simp)
        have HS := Lib.hid (same_walk hna14 hn14 (by rw [HN2.out]; omega))
        have HK14 := Lib.hid (HK13.out.tr k14)
        have HN14 := Lib.hid hna14
        clear HNB hn14 k14 hna14 HK13 HN13
        go_wp2_with fail
        refine HS.out.mono ?_
        rintro e w15 ⟨rfl, k15⟩
        have HN15 := Lib.hid (HN14.out.kept k15 (by simp))
        have HK15 := Lib.hid (HK14.out.tr k15)
        have HW15 := Lib.hid (HW12.out.quiet HK15.out)
        have HX15 := Lib.hid (HX12.out.quiet HK15.out)
        have HY15 := Lib.hid (HY12.out.quiet HK15.out)
        clear HS k15 HN14 HK14 HK15 HW12 HX12 HY12
        go_wp2_with fail
        go_loopg [14, 15] n (fun g bv iv wq => ∃ j : Nat, j ≤ n ∧ g = n - j ∧ bv = .bool true ∧ iv = .int .i64 j ∧ Kept [] w15 wq)
        case atStart => exact ⟨0, Nat.zero_le _, rfl, rfl, rfl, Kept.refl _ _⟩
        case round =>
          obtain ⟨j, hj', hkk, rfl, rfl, hK⟩ := hrel
          have HKJ := Lib.hid hkk
          have HK := Lib.hid hK
          clear hkk
          by_cases hlt : j < n
          · have d1 : ((j : Int) < (n : Int)) ↔ True := by simp; omega
            have hil : j < l.length := by have := HNN.out; omega
            obtain ⟨xs, hx, hy⟩ := HRD.out j hil
            have hNr := HN15.out.kept hK (by simp)
            obtain ⟨_, _, e9, _, hc9⟩ := hNr
            obtain ⟨g, e8, _, c8⟩ := hc9 j _ (nm_getD hil)
            have e10 : pa = some ⟨g, 0, none⟩ := by injection e9 with e11 _ _; rw [e11]; exact e8
            subst e10
            have HX := Lib.hid (read_in (HX15.out.quiet hK) (nmAt l j) hx)
            unfold ptr at HX
            have hd : decide (j < n) = true := decide_eq_true hlt
            have hda : j < ca := by omega
            have HC8 := Lib.hid c8
            clear hc9 hK e9 e8 hx
            go_wp2_with fail
            refine HX.out.mono ?_
            rintro e w16 ⟨v1, rfl, hb1, k16⟩
            have HK16 := Lib.hid (HK.out.tr k16)
            have c8 := k16.cell HC8.out (by simp)
            have HY := Lib.hid (read_in (HY15.out.quiet HK16.out) (nmAt l j) hy)
            unfold ptr at HY
            have HB1 := Lib.hid hb1
            clear hb1 k16 HX hy
            go_wp2_with fail
            refine HY.out.mono ?_
            rintro e w17 ⟨v2, rfl, hb2, k17⟩
            have t1 := conv_strX (HB1.out.x.kept k17 (by simp))
            have t2 := conv_str hb2
            have HK17 := Lib.hid (HK16.out.tr k17)
            clear hb2 k17 HY
            go_wp2_with fail
            go_roundg (n - (j + 1))
            case measure => rw [HKJ.out]; omega
            case rel => exact ⟨j + 1, by omega, rfl, rfl, by go_num, HK17.out⟩
          · have d1 : ((j : Int) < (n : Int)) ↔ False := by simp; omega
            obtain rfl : j = n := by omega
            have HWr := Lib.hid (HW15.out.quiet hK)
            clear hK HK HW15 HX15 HY15 HN15
            have HO1 := Lib.hid (ops_walk HWr.out.fst)
            rw [HPP.out] at HO1
            unfold ptr at HO1
            go_wp2_with fail
            refine HO1.out.mono ?_
            rintro e w18 ⟨rfl, k18⟩
            have HW18 := Lib.hid (HWr.out.quiet k18)
            clear k18 HO1 HWr
            by_cases hpa : (p : Int) < at_
            · have d9 : ((p : Int) < at_) ↔ True := by simp; omega
              have HKE := Lib.hid (HK0.out.tr HW18.out.keeps)
              clear hpa
              go_wp2_with fail
              go_ret
              exact ⟨rfl, HKE.out⟩
            · have d9 : ((p : Int) < at_) ↔ False := by simp; omega
              have hge : at_ ≤ (A.ops : Int) := by rw [HPP.out]; omega
              have hpe : at_ = (p : Int) := by omega
              have hda := (HCA.out.dark h0 hge false []).2
              have HA := Lib.hid ((append_sep HW18.out nmX (bytes_none _).x).mono (R' := fun e w' => e = .returned (.int .i64 24) ∧ Has [] W w' ((Dk db A.powered).sep (Dk dc C))) (by
                rw [dark_append HCA.out h0 hge]
                exact fun e w' h => h))
              have HDA := Lib.hid hda
              have HPE := Lib.hid hpe
              have HGE := Lib.hid hge
              clear hda hpe hge hpa HW18
              unfold ptr nmX at HA
              go_wp2_with fail
              refine HA.out.mono ?_
              rintro e w19 ⟨rfl, h19⟩
              have H19 := Lib.hid h19
              have HR := Lib.hid (read_in h19.fst nmX.data.toList (dark_read HDA.out.2 _))
              unfold ptr nmX at HR
              clear h19 HA
              go_wp2_with fail
              refine HR.out.mono ?_
              rintro e w20 ⟨v3, rfl, _, k20⟩
              have HS := Lib.hid ((syncDir_sep (H19.out.quiet k20)).mono (R' := fun e w' => e = .returned (.int .i64 24) ∧ Has [] W w' ((Dk db A.powered.syncDir.2).sep (Dk dc C))) (by
                rw [dark_syncDir HDA.out.1 h0 HGE.out]
                exact fun e w' h => h))
              unfold ptr at HS
              clear k20 HR H19
              go_wp2_with fail
              refine HS.out.mono ?_
              rintro e w21 ⟨rfl, h21⟩
              have HO1 := Lib.hid (ops_walk h21.fst)
              have hpo : A.powered.syncDir.2.ops = p := by rw [dark_sync_ops HDA.out.1 h0 HGE.out]; exact HPP.out
              rw [hpo] at HO1
              unfold ptr at HO1
              have HKE := Lib.hid (HK0.out.tr h21.keeps)
              have hpe2 : ((p : Int) == at_) = true := by rw [HPE.out]; simp
              have hpe3 : ((p : Int) = at_) ↔ True := by rw [HPE.out]; simp
              clear h21 HS hpo
              go_wp2_with fail
              refine HO1.out.mono ?_
              rintro e w22 ⟨rfl, k22⟩
              have HKF := Lib.hid (HKE.out.tr k22)
              clear k22 HO1
              go_wp2_with fail
              go_ret
              exact ⟨rfl, HKF.out⟩
      · have d1 : ((i : Int) < (n1 : Int)) ↔ False := by simp; omega
        have hokA := playN_ok (ADk.cutAt_ok ADk.new_ok at_) f1 i
        have hokC := playN_ok ADk.new_ok f1 i
        have HLIKE := Lib.hid hcA.like
        have HCA := Lib.hid hcA
        have hops : (playN f1 i ADk.new).ops = (playN f1 i (ADk.new.cutAt at_)).ops := hcA.like.ops.symm
        have hle := hcA.le
        have hcrash := hcA.like.crash k d t
        generalize playN f1 i (ADk.new.cutAt at_) = A at *
        generalize playN f1 i ADk.new = C at *
        obtain ⟨l, hdl, hnA, hread⟩ := cuts_reads hokA k d t
        have hnC : (C.crash k d t).names = l.map (·.1) := by rw [← hcrash]; exact hnA
        have hreadC : ∀ j, j < l.length → ∃ x : List UInt8, (A.crash k d t).read (nmAt l j) = (x, 0) ∧ (C.crash k d t).read (nmAt l j) = (x, 0) := by
          rw [← hcrash]
          exact fun j hj => (hread j hj).imp fun x hx => ⟨hx, hx⟩
        have hll : l.length ≤ 64 := hdl.len
        obtain ⟨n, hN⟩ : ∃ n, l.length = n := ⟨_, rfl⟩
        have hN2 : (l.map (·.1)).length = n := by rw [List.length_map]; exact hN
        rw [hN] at hll
        have HNN := Lib.hid hN
        have HN2 := Lib.hid hN2
        have HRD := Lib.hid hreadC
        have HNA := Lib.hid (And.intro hnA hnC)
        have HOP := Lib.hid hops
        obtain ⟨p, hp⟩ : ∃ p, A.ops = p := ⟨_, rfl⟩
        rw [hp] at hle hops
        have HPP := Lib.hid hp
        have d8 : (at_ < (p : Int)) ↔ False := by simp; omega
        clear hN hN2 hcrash hnA hnC hread hreadC hdl hokA hokC hcA hp
        have HO1 := Lib.hid (ops_walk HW.out.fst)
        rw [HPP.out] at HO1
        unfold ptr at HO1
        go_wp2_with fail
        refine HO1.out.mono ?_
        rintro e w8 ⟨rfl, k8⟩
        have HO2 := Lib.hid (ops_walk (HW.out.quiet k8).swap.fst)
        rw [hops] at HO2
        unfold ptr at HO2
        have HW8 := Lib.hid (HW.out.quiet k8)
        clear k8 HO1
        go_wp2_with fail
        refine HO2.out.mono ?_
        rintro e w9 ⟨rfl, k9⟩
        have HO1 := Lib.hid (ops_walk (HW8.out.quiet k9).fst)
        rw [HPP.out] at HO1
        unfold ptr at HO1
        have HW9 := Lib.hid (HW8.out.quiet k9)
        clear k9 HO2 HW8
        go_wp2_with fail
        refine HO1.out.mono ?_
        rintro e w10 ⟨rfl, k10⟩
        have HW10 := Lib.hid (HW9.out.quiet k10)
        clear k10 HO1 HW9
        have c0 : w10.cell? ⟨fb, 0, none⟩ = _ := HW10.out.keeps.cell HFC.out.1 (by simp)
        have c1' : w10.cell? ⟨fb, 1, none⟩ = _ := HW10.out.keeps.cell HFC.out.2.1 (by simp)
        have c2' : w10.cell? ⟨fb, 2, none⟩ = _ := HW10.out.keeps.cell HFC.out.2.2 (by simp)
        have HC := Lib.hid (crash_in HW10.out.fst k d t)
        unfold ptr at HC
        go_wp2_with fail
        refine HC.out.mono ?_
        rintro e w11 ⟨dX, rfl, h11⟩
        have HW11 := Lib.hid (HW10.out.quiet h11.keeps)
        have HX11 := Lib.hid (h11.from HW10.out.keeps)
        have c0 : w11.cell? ⟨fb, 0, none⟩ = _ := HW11.out.keeps.cell HFC.out.1 (by simp)
        have c1' : w11.cell? ⟨fb, 1, none⟩ = _ := HW11.out.keeps.cell HFC.out.2.1 (by simp)
        have c2' : w11.cell? ⟨fb, 2, none⟩ = _ := HW11.out.keeps.cell HFC.out.2.2 (by simp)
        have HC2 := Lib.hid (crash_in HW11.out.swap.fst k d t)
        unfold ptr at HC2
        clear h11 HC HW10
        go_wp2_with fail
        refine HC2.out.mono ?_
        rintro e w12 ⟨dY, rfl, h12⟩
        have HW12 := Lib.hid (HW11.out.quiet h12.keeps)
        have HX12 := Lib.hid (HX11.out.quiet h12.keeps)
        have HY12 := Lib.hid (h12.from HW11.out.keeps)
        clear h12 HC2 HW11 HX11 c0 c1' c2'
        have HN := Lib.hid (names_in HX12.out HNA.out.1 HN2.out)
        unfold ptr at HN
        go_wp2_with fail
        refine HN.out.mono ?_
        rintro e w13 ⟨pa, ca, rfl, hca, hn13, k13⟩
        have HK13 := Lib.hid k13
        have HN13 := Lib.hid hn13
        have HNB := Lib.hid (names_in (HY12.out.quiet k13) HNA.out.2 HN2.out)
        unfold ptr at HNB
        clear HN hn13 k13
        go_wp2_with fail
        refine HNB.out.mono ?_
        rintro e w14 ⟨pb, cb, rfl, hcb, hn14, k14⟩
        have hna14 := HN13.out.kept k14 (by simp)
        have HS := Lib.hid (same_walk hna14 hn14 (by rw [HN2.out]; omega))
        have HK14 := Lib.hid (HK13.out.tr k14)
        have HN14 := Lib.hid hna14
        clear HNB hn14 k14 hna14 HK13 HN13
        go_wp2_with fail
        refine HS.out.mono ?_
        rintro e w15 ⟨rfl, k15⟩
        have HN15 := Lib.hid (HN14.out.kept k15 (by simp))
        have HK15 := Lib.hid (HK14.out.tr k15)
        have HW15 := Lib.hid (HW12.out.quiet HK15.out)
        have HX15 := Lib.hid (HX12.out.quiet HK15.out)
        have HY15 := Lib.hid (HY12.out.quiet HK15.out)
        clear HS k15 HN14 HK14 HK15 HW12 HX12 HY12
        go_wp2_with fail
        go_loopg [14, 15] n (fun g bv iv wq => ∃ j : Nat, j ≤ n ∧ g = n - j ∧ bv = .bool true ∧ iv = .int .i64 j ∧ Kept [] w15 wq)
        case atStart => exact ⟨0, Nat.zero_le _, rfl, rfl, rfl, Kept.refl _ _⟩
        case round =>
          obtain ⟨j, hj', hkk, rfl, rfl, hK⟩ := hrel
          have HKJ := Lib.hid hkk
          have HK := Lib.hid hK
          clear hkk
          by_cases hlt : j < n
          · have d1 : ((j : Int) < (n : Int)) ↔ True := by simp; omega
            have hil : j < l.length := by have := HNN.out; omega
            obtain ⟨xs, hx, hy⟩ := HRD.out j hil
            have hNr := HN15.out.kept hK (by simp)
            obtain ⟨_, _, e9, _, hc9⟩ := hNr
            obtain ⟨g, e8, _, c8⟩ := hc9 j _ (nm_getD hil)
            have e10 : pa = some ⟨g, 0, none⟩ := by injection e9 with e11 _ _; rw [e11]; exact e8
            subst e10
            have HX := Lib.hid (read_in (HX15.out.quiet hK) (nmAt l j) hx)
            unfold ptr at HX
            have hd : decide (j < n) = true := decide_eq_true hlt
            have hda : j < ca := by omega
            have HC8 := Lib.hid c8
            clear hc9 hK e9 e8 hx
            go_wp2_with fail
            refine HX.out.mono ?_
            rintro e w16 ⟨v1, rfl, hb1, k16⟩
            have HK16 := Lib.hid (HK.out.tr k16)
            have c8 := k16.cell HC8.out (by simp)
            have HY := Lib.hid (read_in (HY15.out.quiet HK16.out) (nmAt l j) hy)
            unfold ptr at HY
            have HB1 := Lib.hid hb1
            clear hb1 k16 HX hy
            go_wp2_with fail
            refine HY.out.mono ?_
            rintro e w17 ⟨v2, rfl, hb2, k17⟩
            have t1 := conv_strX (HB1.out.x.kept k17 (by simp))
            have t2 := conv_str hb2
            have HK17 := Lib.hid (HK16.out.tr k17)
            clear hb2 k17 HY
            go_wp2_with fail
            go_roundg (n - (j + 1))
            case measure => rw [HKJ.out]; omega
            case rel => exact ⟨j + 1, by omega, rfl, rfl, by go_num, HK17.out⟩
          · have d1 : ((j : Int) < (n : Int)) ↔ False := by simp; omega
            obtain rfl : j = n := by omega
            have HWr := Lib.hid (HW15.out.quiet hK)
            clear hK HK HW15 HX15 HY15 HN15
            have HO1 := Lib.hid (ops_walk HWr.out.fst)
            rw [HPP.out] at HO1
            unfold ptr at HO1
            go_wp2_with fail
            refine HO1.out.mono ?_
            rintro e w18 ⟨rfl, k18⟩
            have HW18 := Lib.hid (HWr.out.quiet k18)
            clear k18 HO1 HWr
            by_cases hpa : (p : Int) < at_
            · have d9 : ((p : Int) < at_) ↔ True := by simp; omega
              have HKE := Lib.hid (HK0.out.tr HW18.out.keeps)
              clear hpa
              go_wp2_with fail
              go_ret
              exact ⟨rfl, HKE.out⟩
            · have d9 : ((p : Int) < at_) ↔ False := by simp; omega
              have hge : at_ ≤ (A.ops : Int) := by rw [HPP.out]; omega
              have hpe : at_ = (p : Int) := by omega
              have hda := (HCA.out.dark h0 hge false []).2
              have HA := Lib.hid ((append_sep HW18.out nmX (bytes_none _).x).mono (R' := fun e w' => e = .returned (.int .i64 24) ∧ Has [] W w' ((Dk db A.powered).sep (Dk dc C))) (by
                rw [dark_append HCA.out h0 hge]
                exact fun e w' h => h))
              have HDA := Lib.hid hda
              have HPE := Lib.hid hpe
              have HGE := Lib.hid hge
              clear hda hpe hge hpa HW18
              unfold ptr nmX at HA
              go_wp2_with fail
              refine HA.out.mono ?_
              rintro e w19 ⟨rfl, h19⟩
              have H19 := Lib.hid h19
              have HR := Lib.hid (read_in h19.fst nmX.data.toList (dark_read HDA.out.2 _))
              unfold ptr nmX at HR
              clear h19 HA
              go_wp2_with fail
              refine HR.out.mono ?_
              rintro e w20 ⟨v3, rfl, _, k20⟩
              have HS := Lib.hid ((syncDir_sep (H19.out.quiet k20)).mono (R' := fun e w' => e = .returned (.int .i64 24) ∧ Has [] W w' ((Dk db A.powered.syncDir.2).sep (Dk dc C))) (by
                rw [dark_syncDir HDA.out.1 h0 HGE.out]
                exact fun e w' h => h))
              unfold ptr at HS
              clear k20 HR H19
              go_wp2_with fail
              refine HS.out.mono ?_
              rintro e w21 ⟨rfl, h21⟩
              have HO1 := Lib.hid (ops_walk h21.fst)
              have hpo : A.powered.syncDir.2.ops = p := by rw [dark_sync_ops HDA.out.1 h0 HGE.out]; exact HPP.out
              rw [hpo] at HO1
              unfold ptr at HO1
              have HKE := Lib.hid (HK0.out.tr h21.keeps)
              have hpe2 : ((p : Int) == at_) = true := by rw [HPE.out]; simp
              have hpe3 : ((p : Int) = at_) ↔ True := by rw [HPE.out]; simp
              clear h21 HS hpo
              go_wp2_with fail
              refine HO1.out.mono ?_
              rintro e w22 ⟨rfl, k22⟩
              have HKF := Lib.hid (HKE.out.tr k22)
              clear k22 HO1
              go_wp2_with fail
              go_ret
              exact ⟨rfl, HKF.out⟩
end Go.Proofs.Ytbankfdgoolbdaa
