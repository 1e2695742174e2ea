/- The walk of the statements' own fits: each operation fits all others. -/
import Derived.Test.YtpckpgdkfimapaaDoorSkipPut
import Derived.Laws.Cover1
namespace Go.Proofs.YtpckpgdkfimapaaDoor
open Go Go.RowKit
set_option linter.unusedVariables false

variable {o : List Nat} {w0 w : World} {b ga gn : Nat} {a : Nat → SAsk} {N : Nat} {t : Int} {g : Tg} {obs : Nat → Nat} {lp : Option Addr} {lc : Nat}

theorem cells_new' (w : World) (n : Nat) (arr : Array Value) (t : TypeId) (hn : n = w.heap.size) : ∀ j u, arr.toList[j]? = some u → (w.alloc (.cells arr t)).cell? ((⟨n, 0, none⟩ : Addr).add j) = some u := by
  subst hn
  intro j u hu
  rw [addr0]
  simp only [World.cell?, heap_alloc_new]
  rw [← hu, Array.getElem?_toList]
  rfl
theorem less_no {x y : ByteArray} (h : ¬ kl x y) : Op.bytesLess x.toList y.toList = false := not_lessB.2 h
theorem less_yes {x y : ByteArray} (h : kl x y) : Op.bytesLess x.toList y.toList = true := lessB_iff.2 h

set_option maxHeartbeats 8000000 in
set_option maxRecDepth 100000 in
theorem fits_walk (h : Has o w0 w (.tog b (.slice lp N lc) ga gn obs a g)) (F : Fin a N t g) (hK : KindIn a N) (hN : N ≤ 40) {i : Nat} (hi : i < N) {W : World} (kW : Kept [] w W) :
    Calls Tryd.prog 9 #[.slice lp N lc, .int .i64 i] W fun e w' => e = .returned (.bool true) ∧ Kept [] W w' := by
  obtain ⟨gl, rfl, hm, hcl⟩ := tf_row h F hi
  have hn9 : N ≤ 9223372036854775807 := Nat.le_trans hm (by decide)
  have q1 : 0 ≤ (i : Int) ∧ (i : Int) < (N : Int) := by omega
  have HCL := Lib.hid hcl
  have HRF := Lib.hid (fun (W' : World) (k : Kept [] W W') => tf_ref h F hi (kW.tr k))
  have HKD := Lib.hid (fun W => kd_walk hK (F.key hi).1 W)
  have HLK := Lib.hid (fun W => lkey_walk W (a (g.x i)).key)
  have HTL := Lib.hid (F.told hi).2
  have HPT := Lib.hid (fun (key : ByteArray) (W' : World) (k : Kept [] W W') => put_walk h F hK hN key (kW.tr k))
  have H := Lib.hid h
  have HF := Lib.hid F
  have HK := Lib.hid hK
  have HW := Lib.hid kW
  have HI := Lib.hid hi
  obtain ⟨c0, c1, c2, c3, c4, c5, _⟩ := hcl _ kW
  obtain ⟨kd, hkd⟩ : ∃ kd, (a (g.x i)).kd = kd := ⟨_, rfl⟩
  obtain ⟨kn, hkn⟩ : ∃ kn, (a (g.x i)).kind = kn := ⟨_, rfl⟩
  obtain ⟨hd, hhd⟩ : ∃ hd, (g.q i).had = hd := ⟨_, rfl⟩
  obtain ⟨rf, hrf⟩ : ∃ rf, (g.q i).ref = rf := ⟨_, rfl⟩
  obtain ⟨fd, hfd⟩ : ∃ fd, (g.q i).found = fd := ⟨_, rfl⟩
  obtain ⟨key, hkey⟩ : ∃ key, (a (g.x i)).key = key := ⟨_, rfl⟩
  rw [hkd, hkn] at HKD
  have c6 := (hcl _ (kW.tr ((Kept.refl [] W).alloc (.cells #[.int .i64 (a (g.x i)).wk, .int .i64 (a (g.x i)).kind, .string (a (g.x i)).key, .int .i64 (a (g.x i)).ref, .int .i64 (a (g.x i)).height] 37)))).2.2.2.2.2.1
  rw [hkey, hkn] at c6
  rw [hkey] at HLK c2
  rw [hkn] at c1
  rw [hhd, hrf, hfd] at HRF
  have k3 := SAsk.kd3 (a (g.x i))
  rw [hkd] at k3
  have HNM := Lib.hid (And.intro hkd (And.intro hhd (And.intro hrf (And.intro hfd hkey))))
  have HK3 := Lib.hid k3
  clear h F hK kW hi hcl hkd hkn hhd hrf hfd hkey k3 hm
  go_enter Tryd.func9, Tryd.ntmps9
  go_wp2_with fail
  refine (HRF.out _ ((Kept.refl [] W).alloc _)).mono ?_
  rintro e w2 ⟨rfl, hk2⟩
  have x1 : w2.cell? ⟨W.heap.size, 1, none⟩ = some (.int .i64 kn) := hk2.cell (cells_new' W W.heap.size _ _ rfl 1 _ rfl) (by simp)
  have x2 : w2.cell? ⟨W.heap.size, 2, none⟩ = some (.string key) := hk2.cell (cells_new' W W.heap.size _ _ rfl 2 _ rfl) (by simp)
  have HK2 := Lib.hid (((Kept.refl [] W).alloc _).tr hk2)
  have HX2 := Lib.hid (fun (w' : World) (k : Kept [] w2 w') => k.cell x2 (by simp))
  generalize W.heap.size = xb at *
  clear hk2 c0 c1 c2 c3 c4 c5 c6 HRF
  rcases HTL.out with ⟨t1, t2, t3, t4, t5, _⟩ | T
  · rw [HNM.out.1] at t1
    rw [HNM.out.2.2.2.2] at t2
    rw [t2] at HLK
    rw [t3]
    have g1 : (kd != 2) = true := by simpa using t1
    clear t1 t2 t3 t4 t5
    go_wp2_with fail
    refine (HKD.out _).mono ?_
    rintro e w3 ⟨rfl, rfl⟩
    go_wp2_with fail
    refine (HLK.out _).mono ?_
    rintro e w4 ⟨rfl, rfl⟩
    go_wp2_with fail
    go_ret
    exact ⟨rfl, HK2.out⟩
  · have HT := Lib.hid T
    rw [T.code]
    obtain ⟨kb, hkb⟩ : ∃ kb, keyB key = kb := ⟨_, rfl⟩
    have hkb2 : kd = 2 ∨ (kb = true ∧ kd ≠ 2) := by
      by_cases e : kd = 2
      · exact .inl e
      · right
        refine ⟨?_, e⟩
        rw [← hkb, ← HNM.out.2.2.2.2]
        exact T.key (by rw [HNM.out.1]; exact e)
    rw [hkb] at HLK
    have HKB := Lib.hid hkb2
    clear T hkb hkb2 HTL
    go_wp2_with fail
    refine (HKD.out _).mono ?_
    rintro e w3 ⟨rfl, rfl⟩
    go_wp2_with fail
    refine (HLK.out _).mono ?_
    rintro e w4 ⟨rfl, rfl⟩
    go_upto_region 5 with fail
    go_cut [47] from 42 (fun s47 wx => s47 = .bool false ∧ wx = w4)
    case first =>
      rcases HKB.out with rfl | ⟨rfl, e⟩
      · go_wp2_with fail
        go_meet
        exact ⟨rfl, rfl⟩
      · have g1 : (kd != 2) = true := by simpa using e
        clear e
        go_wp2_with fail
        go_meet
        exact ⟨rfl, rfl⟩
    case rest =>
    obtain ⟨rfl, rfl⟩ := hcut
    have HPW := Lib.hid (HPT.out key _ HK2.out)
    go_wp2_with fail
    refine HPW.out.mono ?_
    rintro e w5 ⟨r, rfl, hk5, hr⟩
    have HK5 := Lib.hid (HK2.out.tr hk5)
    have HX5 := Lib.hid (fun (w' : World) (k : Kept [] w5 w') => HX2.out w' (hk5.tr k))
    have HR := Lib.hid hr
    clear hk5 hr x1 x2 HPW HX2
    by_cases hk0 : kd = 0
    · subst hk0
      as_aux_lemma =>
        obtain ⟨e1, e2, e3, e4, e5⟩ := HNM.out
        obtain ⟨hf, l, l1, l2, l3, l4, l5, l6⟩ := HT.out.ins e1
        have efk : fd = key := by rw [← e4, ← e5]; exact hf
        subst efk
        have hrl : r = (l : Int) := by
          rcases HR.out with ⟨_, hno⟩ | ⟨m, m1, m2, m3, m4⟩
          · exact absurd (l3.trans e5) (hno l l1 l2)
          · rw [m2, HF.out.uniq m1 l1 m3 l2 (by rw [m4, l3, e5])]
        subst hrl
        obtain ⟨_, eg, _, hcl⟩ := tf_row H.out HF.out l1
        obtain rfl := (Addr.mk.inj (Option.some.inj eg)).1
        obtain ⟨_, _, _, y3, _, _, y6, _⟩ := hcl _ (HW.out.tr HK5.out)
        obtain ⟨_, _, _, _, _, _, _, y7⟩ := HCL.out _ (HW.out.tr HK5.out)
        rw [← l4, e3] at y3
        have q2 : 0 ≤ (l : Int) ∧ (l : Int) < (N : Int) := by omega
        have x2 := HX5.out _ (Kept.refl _ _)
        have s1 := str_same fd
        have s2 : (rf == rf) = true := by simp
        have s2' : decide (rf = rf) = true := by simp
        have s3 : decide ((l : Int) ≥ 0) = true := by simp
        have s3' : decide (0 ≤ (l : Int)) = true := by simp
        have s4 : decide (g.bg l ≤ g.en i) = true := decide_eq_true l6
        have hhd : hd = true ↔ l ≠ i := by rw [← e2]; exact l5
        clear e1 e2 e3 e4 e5 hf l1 l2 l3 l4 l5 l6 eg hcl HNM HR HKB
        by_cases hli : l = i
        · subst hli
          have : hd = false := by
            cases hd with
            | false => rfl
            | true => exact absurd rfl (hhd.1 rfl)
          subst this
          have s5 : ((l : Int) != (l : Int)) = false := by simp
          have s5' : (l != l) = false := by simp
          clear hhd
          go_wp2_with fail
          go_quiet (fail)
          go_wp2_with fail
          go_ret
          exact ⟨rfl, HK5.out.drewN _⟩
        · have : hd = true := hhd.2 hli
          subst this
          have s5 : ((l : Int) != (i : Int)) = true := by simp; omega
          have s5' : (l != i) = true := by simpa using hli
          clear hhd hli
          go_wp2_with fail
          go_quiet (fail)
          go_wp2_with fail
          go_ret
          exact ⟨rfl, HK5.out.drewN _⟩
    · have g0 : (kd == 0) = false := by simpa using hk0
      have HK0 := Lib.hid hk0
      clear hk0
      go_upto_if 96 with fail
      go_cut [13] from 97 (fun _ wx => Kept [] w5 wx)
      case first =>
        cases hd with
        | false =>
          go_wp2_with fail
          go_meet
          exact Kept.refl _ _
        | true =>
          as_aux_lemma =>
            obtain ⟨e1, e2, e3, e4, e5⟩ := HNM.out
            obtain ⟨l, l1, l2, l3, l4, l5, l6, l7⟩ := HT.out.had (by rw [e1]; exact HK0.out) e2
            have HPF := Lib.hid (HPT.out fd _ HK5.out)
            have HL := Lib.hid (And.intro l1 (And.intro l2 (And.intro (l3.trans e4) (And.intro (e3.symm.trans l4) (And.intro l5 (show ¬ kl fd key from by rw [← e4, ← e5]; exact l6))))))
            have HL7 := Lib.hid (show kd = 1 → fd = key from fun h => by rw [← e4, ← e5]; exact l7 (by rw [e1]; exact h))
            clear e1 e2 e3 e4 e5 l1 l2 l3 l4 l5 l6 l7
            go_wp2_with fail
            refine HPF.out.mono ?_
            rintro e w6 ⟨r6, rfl, hk6, hr6⟩
            obtain ⟨l1, l2, l3, l4, l5, l6⟩ := HL.out
            have hrl : r6 = (l : Int) := by
              rcases hr6 with ⟨_, hno⟩ | ⟨m, m1, m2, m3, m4⟩
              · exact absurd l3 (hno l l1 l2)
              · rw [m2, HF.out.uniq m1 l1 m3 l2 (by rw [m4, l3])]
            subst hrl
            obtain ⟨_, eg, _, hcl⟩ := tf_row H.out HF.out l1
            obtain rfl := (Addr.mk.inj (Option.some.inj eg)).1
            obtain ⟨_, _, _, y3, _, _, y6, _⟩ := hcl _ ((HW.out.tr HK5.out).tr hk6)
            obtain ⟨_, _, _, _, _, _, _, y7⟩ := HCL.out _ ((HW.out.tr HK5.out).tr hk6)
            rw [← l4] at y3
            have q2 : 0 ≤ (l : Int) ∧ (l : Int) < (N : Int) := by omega
            have x2 := HX5.out _ hk6
            have s2 : (rf != rf) = false := by simp
            have s3 : decide ((l : Int) < 0) = false := by simp
            have s4 : decide (g.bg l > g.en i) = false := by simp; omega
            have s4' : decide (g.en i < g.bg l) = false := by simp; omega
            have s6 := less_no l6
            have HK6 := Lib.hid hk6
            clear l1 l2 l3 l4 l5 l6 eg hcl HNM HR hk6 hr6 HPF
            rcases (by have := HK3.out; have := HK0.out; omega : kd = 1 ∨ kd = 2) with rfl | rfl
            · have efk := HL7.out rfl
              subst efk
              have s1 := str_same fd
              clear HL HL7
              go_wp2_with fail
              go_quiet (fail)
              go_wp2_with fail
              go_meet
              exact HK6.out.drewN _
            · clear HL HL7
              go_wp2_with fail
              go_quiet (fail)
              go_wp2_with fail
              go_meet
              exact HK6.out.drewN _
      case rest =>
        have HK6 := Lib.hid (HK5.out.tr hcut)
        have HX6 := Lib.hid (fun (w' : World) (k : Kept [] wc w') => HX5.out w' (hcut.tr k))
        clear hcut HK5 HX5 HR
        go_wp2_with fail
        go_loopg [14] N (fun k iv wr => ∃ c : Nat, c ≤ N ∧ k = N - c ∧ iv = .int .i64 c ∧ Kept [] wc wr)
        case atStart => exact ⟨0, Nat.zero_le _, rfl, rfl, Kept.refl _ _⟩
        case round =>
          obtain ⟨c, hcN, hkk, rfl, hkr⟩ := hrel
          have HKR := Lib.hid hkr
          have HKK := Lib.hid hkk
          clear hkr hkk
          by_cases hlt : c < N
          · have d1 : decide ((c : Int) < (N : Int)) = true := by simp; omega
            have d1' : decide (c < N) = true := by simpa using hlt
            have q3 : 0 ≤ (c : Int) ∧ (c : Int) < (N : Int) := by omega
            obtain ⟨_, eg, _, hcl⟩ := tf_row H.out HF.out hlt
            obtain rfl := (Addr.mk.inj (Option.some.inj eg)).1
            obtain ⟨_, _, _, _, _, c5, _⟩ := hcl _ ((HW.out.tr HK6.out).tr HKR.out)
            have HCC := Lib.hid hcl
            have HRC := Lib.hid (tf_ref H.out HF.out hlt ((HW.out.tr HK6.out).tr HKR.out))
            have HKC := Lib.hid (fun W => kd_walk HK.out (HF.out.key hlt).1 W)
            have HLT := Lib.hid hlt
            have hall := HT.out.all (by rw [HNM.out.1]; exact HK0.out) c hlt
            obtain ⟨hdc, e2⟩ : ∃ hdc, (g.q c).had = hdc := ⟨_, rfl⟩
            obtain ⟨was, e4⟩ : ∃ was, (g.q c).found = was := ⟨_, rfl⟩
            obtain ⟨cdc, e6⟩ : ∃ cdc, (g.q c).code = cdc := ⟨_, rfl⟩
            obtain ⟨kdc, e7⟩ : ∃ kdc, (a (g.x c)).kd = kdc := ⟨_, rfl⟩
            rw [e7] at HKC
            rw [e2, e4, e6] at HRC
            rw [e2, e4, e6, e7, HNM.out.1, HNM.out.2.1, HNM.out.2.2.2.1, HNM.out.2.2.2.2] at hall
            have HALL := Lib.hid hall
            clear hlt eg hcl hall e2 e4 e6 e7
            go_wp2_with fail
            refine HRC.out.mono ?_
            rintro e w7 ⟨rfl, hk7⟩
            have HK7 := Lib.hid (HKR.out.tr hk7)
            clear hk7 HRC c5
            go_upto_region 20 with fail
            go_cut [190] from 141 to 222 (fun s190 wx => (∃ C : Bool, s190 = .bool C ∧ (C = false → g.en c < g.bg i ∧ cdc = 0 ∧ (kdc = 0 ∨ hdc = true))) ∧ ∃ nq, wx = w7.drewN nq)
            case first =>
              as_aux_lemma =>
                obtain ⟨_, y1, _, _, _, _, _, y7⟩ := HCC.out _ ((HW.out.tr HK6.out).tr HK7.out)
                obtain ⟨_, _, _, _, _, _, y6, _⟩ := HCL.out _ ((HW.out.tr HK6.out).tr HK7.out)
                by_cases h1 : g.en c < g.bg i
                · have t1 : decide (g.en c ≥ g.bg i) = false := by simp; omega
                  have t1' : decide (g.bg i ≤ g.en c) = false := by simp; omega
                  have HE := Lib.hid h1
                  clear h1
                  by_cases h2 : cdc = 0
                  · subst h2
                    by_cases h3 : was = ⟨#[]⟩
                    · subst h3
                      go_quiet ((go_at_call 11; exact Calls.quiet_of_same (HKC.out _)))
                      go_wp2_with fail
                      go_meet
                      exact ⟨⟨true, rfl, fun h => by cases h⟩, _, rfl⟩
                    · have s1 := str_ne h3
                      have s2 : was.toList ≠ [] := fun e => by rw [ByteArray.toList_eq] at e; exact h3 (Go.WideShapes.bytes_inj (by rw [e]))
                      have s3 : was.toList.isEmpty = false := by simpa using s2
                      have s4 : (was.toList == []) = false := by simpa using s2
                      clear h3 s2
                      by_cases h4 : kdc = 0
                      · subst h4
                        go_quiet ((go_at_call 11; exact Calls.quiet_of_same (HKC.out _)))
                        go_wp2_with fail
                        go_meet
                        exact ⟨⟨false, rfl, fun _ => ⟨HE.out, by simp, by simp⟩⟩, _, rfl⟩
                      · have t4 : (kdc != 0) = true := by simpa using h4
                        clear h4
                        cases hdc with
                        | true =>
                          go_quiet ((go_at_call 11; exact Calls.quiet_of_same (HKC.out _)))
                          go_wp2_with fail
                          go_meet
                          exact ⟨⟨false, rfl, fun _ => ⟨HE.out, by simp, by simp⟩⟩, _, rfl⟩
                        | false =>
                          go_quiet ((go_at_call 11; exact Calls.quiet_of_same (HKC.out _)))
                          go_wp2_with fail
                          go_meet
                          exact ⟨⟨true, rfl, fun h => by cases h⟩, _, rfl⟩
                  · have t2 : (cdc != 0) = true := by simpa using h2
                    clear h2
                    go_quiet ((go_at_call 11; exact Calls.quiet_of_same (HKC.out _)))
                    go_wp2_with fail
                    go_meet
                    exact ⟨⟨true, rfl, fun h => by cases h⟩, _, rfl⟩
                · have t1 : decide (g.en c ≥ g.bg i) = true := by simp; omega
                  have t1' : decide (g.bg i ≤ g.en c) = true := by simp; omega
                  clear h1
                  go_quiet ((go_at_call 11; exact Calls.quiet_of_same (HKC.out _)))
                  go_wp2_with fail
                  go_meet
                  exact ⟨⟨true, rfl, fun h => by cases h⟩, _, rfl⟩
            case rest =>
              obtain ⟨⟨C, rfl, hC⟩, nq, rfl⟩ := hcut
              have HK8 := Lib.hid (HK7.out.drewN nq)
              generalize w7.drewN nq = w8 at *
              cases C with
              | true =>
                clear hC
                go_wp2_with fail
                go_roundg (N - (c + 1))
                case measure => rw [HKK.out]; have := HLT.out; omega
                case rel => exact ⟨c + 1, HLT.out, rfl, by go_num, HK8.out⟩
              | false =>
                obtain ⟨h1, h2, h3⟩ := hC rfl
                obtain ⟨a1, a2⟩ := HALL.out h1 h2 h3
                have x2 := HX6.out _ HK8.out
                have HA1 := Lib.hid a1
                have HA2 := Lib.hid a2
                clear hC h1 h2 h3 a1 a2
                rcases (by have := HK3.out; have := HK0.out; omega : kd = 1 ∨ kd = 2) with rfl | rfl
                · by_cases he : was = key
                  · have hd1 := HA1.out rfl he
                    subst he
                    subst hd1
                    have s1 := str_same was
                    clear HA1 HA2
                    go_wp2_with fail
                    go_roundg (N - (c + 1))
                    case measure => rw [HKK.out]; have := HLT.out; omega
                    case rel => exact ⟨c + 1, HLT.out, rfl, by go_num, HK8.out⟩
                  · have s1 := str_ne he
                    clear HA1 HA2 he
                    go_wp2_with fail
                    go_roundg (N - (c + 1))
                    case measure => rw [HKK.out]; have := HLT.out; omega
                    case rel => exact ⟨c + 1, HLT.out, rfl, by go_num, HK8.out⟩
                · by_cases hl : kl was key
                  · have s1 := less_yes hl
                    clear HA1 HA2 hl
                    go_wp2_with fail
                    go_roundg (N - (c + 1))
                    case measure => rw [HKK.out]; have := HLT.out; omega
                    case rel => exact ⟨c + 1, HLT.out, rfl, by go_num, HK8.out⟩
                  · obtain ⟨hd1, hnl⟩ := HA2.out rfl hl
                    subst hd1
                    have s1 := less_no hl
                    have s2 := less_no hnl
                    clear HA1 HA2 hl hnl
                    go_wp2_with fail
                    go_roundg (N - (c + 1))
                    case measure => rw [HKK.out]; have := HLT.out; omega
                    case rel => exact ⟨c + 1, HLT.out, rfl, by go_num, HK8.out⟩
          · have d1 : decide ((c : Int) < (N : Int)) = false := by simp; omega
            have d1' : decide (c < N) = false := by simpa using hlt
            clear hlt
            go_wp2_with fail
            go_ret
            exact ⟨rfl, HK6.out.tr HKR.out⟩
end Go.Proofs.YtpckpgdkfimapaaDoor
