/- The walk of StoreDoes: true at all sizes and scripts, and nothing that was there has changed. -/
import Derived.Test.YtlaffmdflleeeaaDoorTwoNew
namespace Go.Proofs.YtlaffmdflleeeaaDoor
open Go Go.RowKit
set_option linter.unusedVariables false

variable {o : List Nat} {w0 w : World} {b rb : Nat} {A A' : ASt} {rs : Int}

theorem steps_lift {f : FuncId} {args : Array Value} {r : Ending} {B : Part} {D : ASt → Int → Prop} (h : Has o w0 w ((Part.two b rb A A rs).sep B)) (hT : TabAt w0) (ho : 0 ∉ o)
    (c : ∀ o1, Has o1 w w (.two b rb A A rs) → TabAt w → 0 ∉ o1 → Calls Tryd.prog f args w (fun e w' => e = r ∧ ∃ A' rs', D A' rs' ∧ Has o1 w w' (.two b rb A' A' rs'))) :
    Calls Tryd.prog f args w (fun e w' => e = r ∧ ∃ A' rs', D A' rs' ∧ Has o w0 w' ((Part.two b rb A' A' rs').sep B)) := by
  obtain ⟨o1, h1, p1, _, b1⟩ := h.left
  refine (c o1 h1 (hT.kept h.keeps ho) (tab_out hT ho p1)).mono ?_
  rintro e w' ⟨rfl, A', rs', hd, h'⟩
  exact ⟨rfl, A', rs', hd, b1 _ _ h'⟩

theorem did_all {k : Int} {A0 A1 A2 A3 : ASt} {r0 r1 r2 r3 : Int} (h1 : Did own1 k A0 A1 r0 r1) (h2 : Did own2 k A1 A2 r1 r2) (h3 : Did own3 k A2 A3 r2 r3) (hk : touchK k = true) : ∃ d : Bool, A3.steps = stp d A0.steps ∧ r3 = stp d r0 := by
  have hks : k = 4 ∨ k = 5 ∨ k = 6 ∨ k = 8 ∨ k = 9 ∨ k = 10 ∨ k = 11 ∨ k = 12 ∨ k = 14 ∨ k = 15 ∨ k = 7 := by unfold touchK at hk; simp at hk; omega
  obtain ⟨_, n1, d1, t1⟩ := h1
  obtain ⟨_, n2, d2, t2⟩ := h2
  obtain ⟨_, n3, d3, t3⟩ := h3
  rcases hks with rfl | rfl | rfl | rfl | rfl | rfl | rfl | rfl | rfl | rfl | rfl
  · obtain ⟨rfl, rfl⟩ := n2 rfl
    obtain ⟨rfl, rfl⟩ := n3 rfl
    exact ⟨d1, t1 rfl⟩
  all_goals first
    | (obtain ⟨rfl, rfl⟩ := n1 rfl
       obtain ⟨rfl, rfl⟩ := n3 rfl
       exact ⟨d2, t2 rfl⟩)
    | (obtain ⟨rfl, rfl⟩ := n1 rfl
       obtain ⟨rfl, rfl⟩ := n2 rfl
       exact ⟨d3, t3 rfl⟩)

theorem stp_diff (d : Bool) (s r : Int) : wrap64 (stp d s - s) = wrap64 (stp d r - r) := by
  cases d
  · show wrap64 (s - s) = wrap64 (r - r)
    rw [Int.sub_self, Int.sub_self]
  · show wrap64 (wrap64 (s + 1) - s) = wrap64 (wrap64 (r + 1) - r)
    unfold wrap64; omega

theorem two_reads (h : Has o w0 w (.two b rb A A rs)) : w.cell? ⟨rb, 3, none⟩ = some (.int .i64 A.free) ∧ w.cell? ⟨rb, 4, none⟩ = some (.int .i64 rs) := by
  obtain ⟨_, h1, _⟩ := Has.right (A := .store b A) (B := .rstore rb A rs) h
  obtain ⟨x, h1⟩ := h1.rfOpen
  obtain ⟨_, _, _, c3, c4, _⟩ := RfP.fields h1
  exact ⟨c3, c4⟩

set_option maxHeartbeats 4000000 in
set_option maxRecDepth 100000 in
theorem does11_no (w : World) (hT : TabAt w) (v : Value) (size : Int) (hs : size < 1 ∨ 65536 < size) :
    Calls Tryd.prog 8 #[.int .i64 size, v] w fun e w' => e = .returned (.bool true) ∧ Kept [] w w' := by
  have HT := Lib.hid hT
  clear hT
  go_enter Tryd.func8, Tryd.ntmps8
  go_wp2_with fail
  refine (shown_calls w HT.out).mono ?_
  rintro e w1 ⟨rfl, hk⟩
  have HK := Lib.hid hk
  clear hk
  go_wp2_with fail
  refine (new_walk_no w1 size hs).mono ?_
  rintro e w2 ⟨rfl, rfl⟩
  go_wp2_with fail
  go_ret
  exact ⟨rfl, HK.out⟩

set_option maxHeartbeats 16000000 in
set_option maxRecDepth 100000 in
theorem does11_law (w : World) (hT : TabAt w) (size : Nat) (h1 : 1 ≤ size) (h2 : size ≤ 65536) (n : Nat) (z : Nat → StV) (q : Option Addr) (qcap : Nat) (hn : n ≤ 140737488351232) (hz : ∀ i, i < n → (z i).ok) (hp : 0 < n → ∃ b off, q = some ⟨b, off, none⟩ ∧ b < w.heap.size ∧ ∀ i, i < n → stepAt w b off i (z i)) :
    Calls Tryd.prog 8 #[.int .i64 (size : Int), .slice q n qcap] w fun e w' => e = .returned (.bool true) ∧ Kept [] w w' := by
  have HT := Lib.hid hT
  have HP := Lib.hid hp
  have HZ := Lib.hid hz
  clear hT hp hz
  go_enter Tryd.func8, Tryd.ntmps8
  go_wp2_with fail
  refine (shown_calls w HT.out).mono ?_
  rintro e w1 ⟨rfl, hk⟩
  have HK := Lib.hid hk
  clear hk
  go_wp2_with fail
  refine (new_both w w1 HK.out size h1 h2).mono ?_
  rintro e w2 ⟨ab, rfl, hA⟩
  have HA := Lib.hid hA
  clear hA
  go_wp2_with fail
  refine (new_store h2 HA.out).mono ?_
  rintro e w3 ⟨b, rfl, hX⟩
  have HX := Lib.hid (two_new hX)
  obtain ⟨rb, hrb⟩ : ∃ rb, rb = w3.heap.size := ⟨_, rfl⟩
  rw [← hrb] at HX
  clear hX HA
  go_wp2_with fail
  rw [← hrb]
  clear hrb
  go_loopg [11] n (fun k iv wr => ∃ (i : Nat) (A : ASt) (rs : Int), i ≤ n ∧ k = n - i ∧ i ≤ 2000 ∧ iv = .int .i64 i ∧ A.ab = ab ∧ A.size = size ∧ Small A (3 * i) ∧ Has [] w wr (.two b rb A A rs))
  case atStart => exact ⟨0, _, _, Nat.zero_le _, rfl, by omega, rfl, rfl, rfl, ⟨Nat.le_refl _, Nat.le_refl _, Nat.le_refl _⟩, HX.out⟩
  case round =>
    clear HX
    obtain ⟨i, A, rs, hi, hk, hi3, rfl, hab, hsz, hsm, hX⟩ := hrel
    have HKK := Lib.hid hk
    have HX := Lib.hid hX
    have HSM := Lib.hid hsm
    have HAB := Lib.hid hab
    have HSZ := Lib.hid hsz
    clear hk hX hsm hab hsz
    by_cases hlt : i < n ∧ i < 2000
    · obtain ⟨hlt, hlt2⟩ := hlt
      have hd : decide ((i : Int) < (n : Int)) = true := by simp; omega
      have hd' : decide (i < n) = true := by simp; omega
      have hdd : decide ((i : Int) < 2000) = true := by simp; omega
      have hdd' : decide (i < 2000) = true := by simp; omega
      obtain ⟨qb, qoff, rfl, _, hc⟩ := HP.out (by omega)
      have hst := (hc i hlt)
      have hok := HZ.out i hlt
      generalize z i = s at *
      have HST := Lib.hid hst
      have HOK := Lib.hid hok
      obtain ⟨c0, c1, c2, c3, c4, c5, c6⟩ := hst.kept HX.out.keeps
      have HXB := Lib.hid (box_made s.k s.a s.b s.c s.v s.w s.t HX.out)
      clear hc hst hok
      go_wp2_with fail
      generalize wr.alloc (.cells #[.int .i64 s.k, .int .i64 s.a, .int .i64 s.b, .int .i64 s.c, .int .u64 s.v, .int .u64 s.w, .string s.t] 62) = W1 at *
      generalize wr.heap.size = gx at *
      obtain ⟨o1, h1x, _⟩ := HXB.out.left
      obtain ⟨o2, h2x, _⟩ := Has.left (A := .store b A) (B := .rstore rb A rs) h1x
      have hsp := steps_at h2x
      rw [HAB.out] at hsp
      have HSP := Lib.hid hsp
      obtain ⟨_, y4⟩ := two_reads h1x
      obtain ⟨j0, j1, j2, j3, j4, j5, j6⟩ := box_cells HXB.out
      have HM := Lib.hid (steps_lift HXB.out HT.out tab_nil (fun o1 h1 hT1 ho1 => makes_walk h1 hT1 ho1 HSM.out (by omega) s.k s.a s.b s.c s.v s.w s.t HOK.out.v0 HOK.out.v1 HOK.out.w0 HOK.out.w1))
      clear h1x h2x hsp HXB HX c0 c1 c2 c3 c4 c5 c6
      refine HSP.out.mono ?_
      rintro e w4 ⟨rfl, rfl⟩
      go_wp2_with fail
      refine HM.out.mono ?_
      rintro e w5 ⟨rfl, A1, rs1, hdid, hX⟩
      have hsm1 := HSM.out.nxt hdid.1
      obtain ⟨d0, d1, d2, d3, d4, d5, d6⟩ := box_cells hX
      have HM2 := Lib.hid (steps_lift hX HT.out tab_nil (fun o1 h1 hT1 ho1 => swaps_walk h1 hT1 ho1 hsm1 (by omega) s.k s.a s.b s.c s.v s.w s.t HOK.out.v0 HOK.out.v1 HOK.out.w0 HOK.out.w1))
      have HSM1 := Lib.hid hsm1
      have HD1 := Lib.hid hdid
      clear hX hdid hsm1 HM HSP j0 j1 j2 j3 j4 j5 j6 y4
      go_wp2_with fail
      refine HM2.out.mono ?_
      rintro e w6 ⟨rfl, A2, rs2, hdid, hX⟩
      have hsm2 := HSM1.out.nxt hdid.1
      obtain ⟨x0, x1, x2, x3, x4, x5, x6⟩ := box_cells hX
      have HM3 := Lib.hid (steps_lift hX HT.out tab_nil (fun o1 h1 hT1 ho1 => loads_walk h1 hT1 ho1 hsm2 (by omega) s.k s.a s.b s.c s.v s.w s.t HOK.out.v0 HOK.out.v1 HOK.out.w0 HOK.out.w1))
      have HSM2 := Lib.hid hsm2
      have HD2 := Lib.hid hdid
      clear hX hdid hsm2 HM2 d0 d1 d2 d3 d4 d5 d6
      go_wp2_with fail
      refine HM3.out.mono ?_
      rintro e w7 ⟨rfl, A3, rs3, hdid, hX⟩
      have HSM3 := Lib.hid (HSM2.out.nxt hdid.1)
      obtain ⟨k0, _⟩ := box_cells hX
      have HD3 := Lib.hid hdid
      have HX7 := Lib.hid hX
      have HTC := Lib.hid (fun W => touches_walk W s.k)
      clear hX hdid HM3 x0 x1 x2 x3 x4 x5 x6
      go_wp2_with fail
      refine (HTC.out _).mono ?_
      rintro e w8 ⟨rfl, rfl⟩
      have hab3 : A3.ab = ab := by rw [HD3.out.1.ab, HD2.out.1.ab, HD1.out.1.ab, HAB.out]
      have hsz3 : A3.size = size := by rw [HD3.out.1.size, HD2.out.1.size, HD1.out.1.size, HSZ.out]
      obtain ⟨o1, h1x, _⟩ := HX7.out.left
      obtain ⟨y3, y4⟩ := two_reads h1x
      have hfit := (two_ok h1x).fit
      have HUS := Lib.hid (fun (W : World) (hW : Has [] w W ((Part.two b rb A3 A3 rs3).sep (.blk gx 7 62 (bxF s.k s.a s.b s.c s.v s.w s.t)))) => show Calls Tryd.prog 24 #[.pointer (some ⟨ab, 0, none⟩)] W fun e w' => e = .returned (.int .i64 (A3.used : Nat)) ∧ w' = W from by
        obtain ⟨_, q1, _⟩ := hW.left
        obtain ⟨_, q2, _⟩ := Has.left (A := .store b A3) (B := .rstore rb A3 rs3) q1
        rw [← hab3]
        exact used_at q2)
      have HSS := Lib.hid (fun (W : World) (hW : Has [] w W ((Part.two b rb A3 A3 rs3).sep (.blk gx 7 62 (bxF s.k s.a s.b s.c s.v s.w s.t)))) => show Calls Tryd.prog 32 #[.pointer (some ⟨ab, 0, none⟩)] W fun e w' => e = .returned (.int .i64 A3.steps) ∧ w' = W from by
        obtain ⟨_, q1, _⟩ := hW.left
        obtain ⟨_, q2, _⟩ := Has.left (A := .store b A3) (B := .rstore rb A3 rs3) q1
        rw [← hab3]
        exact steps_at q2)
      have HDA := Lib.hid (did_all HD1.out HD2.out HD3.out)
      have hfree : A3.free = (size : Int) - (A3.used : Int) := by unfold ASt.free; rw [hsz3]
      rw [hfree] at y3
      rw [hsz3] at hfit
      generalize A3.used = u at *
      have hwr : IntKind.i64.wrap ((size : Int) - ((size : Int) - (u : Int))) = (u : Int) := by unfold IntKind.wrap; simp [IntKind.bits, IntKind.signed]; omega
      have HAB3 := Lib.hid hab3
      have HSZ3 := Lib.hid hsz3
      clear h1x hfree hab3 hsz3 HTC k0
      cases htk : touchK s.k
      · clear HDA
        go_wp2_with fail
        go_quiet (exact Calls.quiet_of_same (HUS.out _ (HX7.out.drewN _)))
        go_wp2_with fail
        go_roundg (n - (i + 1))
        case measure => rw [HKK.out]; omega
        case rel => exact ⟨i + 1, A3, rs3, by omega, rfl, by omega, by go_num, HAB3.out, HSZ3.out, HSM3.out, HX7.out.fst.drewN _⟩
      · obtain ⟨dd, e1, e2⟩ := HDA.out htk
        have e3 := stp_diff dd A.steps rs
        rw [← e1, ← e2] at e3
        have E3 := Lib.hid e3
        have e4 : IntKind.i64.wrap (A3.steps - A.steps) = IntKind.i64.wrap (rs3 - rs) := by
          have h8 : ∀ x, IntKind.i64.wrap x = wrap64 x := fun x => by unfold IntKind.wrap wrap64; simp [IntKind.bits, IntKind.signed]; split <;> omega
          rw [h8, h8]; exact e3
        have g1 : decide (wrap64 (A3.steps - A.steps) = wrap64 (rs3 - rs)) = true := by simpa using e3
        have g2 : (wrap64 (A3.steps - A.steps) == wrap64 (rs3 - rs)) = true := by simpa using e3
        have g3 : (wrap64 (A3.steps - A.steps) != wrap64 (rs3 - rs)) = false := by simpa using e3
        clear e1 e2 e3 HDA
        go_wp2_with fail
        go_quiet (first | exact Calls.quiet_of_same (HUS.out _ (HX7.out.drewN _)) | exact Calls.quiet_of_same (HSS.out _ (HX7.out.drewN _)))
        go_wp2_with fail
        go_roundg (n - (i + 1))
        case measure => rw [HKK.out]; omega
        case rel => exact ⟨i + 1, A3, rs3, by omega, rfl, by omega, by go_num, HAB3.out, HSZ3.out, HSM3.out, HX7.out.fst.drewN _⟩
    · have hstop : (i < n ∧ decide ((i : Int) < (n : Int)) = true ∧ decide (i < n) = true ∧ decide ((i : Int) < 2000) = false ∧ decide (i < 2000) = false) ∨ (decide ((i : Int) < (n : Int)) = false ∧ decide (i < n) = false) := by
        by_cases h1 : i < n
        · left; simp; omega
        · right; simp; omega
      have hN9 : A.nN ≤ 6000 := by have := HSM.out.nN; omega
      have hV9 : A.nV ≤ 6000 := by have := HSM.out.nV; omega
      clear hlt
      rcases hstop with ⟨_, x1, x2, x3, x4⟩ | ⟨x1, x2⟩
      all_goals (
        go_wp2_with fail
        go_loopg [19] (A.nN + 2) (fun k jv wx => ∃ (j : Nat) (st : Int), j ≤ A.nN + 2 ∧ k = A.nN + 2 - j ∧ jv = .int .i64 (j : Int) ∧ Has [] w wx (.two b rb (A.at st) A rs))
        case atStart => exact ⟨0, A.steps, by omega, rfl, rfl, HX.out⟩
        case round =>
          clear HX
          obtain ⟨j, st, hj, hk2, rfl, hX⟩ := hrel
          have HKJ := Lib.hid hk2
          obtain ⟨rp, rc, y0⟩ := two_fields hX
          have HX := Lib.hid hX
          clear hk2 hX
          by_cases hjn : j < A.nN + 2
          · have g1 : decide ((j : Int) ≤ (A.nN : Int) + 1) = true := by simp; omega
            obtain ⟨o1, h1, _, _, b1⟩ := Has.left (A := .store b (A.at st)) (B := .rstore rb A rs) HX.out
            have hok := h1.stOk
            by_cases hn : A.isN (j : Int) = true
            · obtain ⟨t, ht, htN⟩ := isN_at hn
              have hhd := (some_of (A := A.at st) (i := t) htN).1
              have hle := hok.headLe t _ hhd
              obtain ⟨_, _, hl3⟩ := chain_live hok (A.N t).1.toNat (A.N t).1 hle
              have hle' : (A.N t).1 ≤ (A.nV : Int) := hle
              have HCH := Lib.hid (show Calls Tryd.prog 18 #[.pointer (some ⟨b, 0, none⟩), .int .i64 (j : Int)] _ fun e w' => ∃ lv st', e = .returned lv ∧ Has [] w w' (((Part.store b (A.at st')).sep (.nums lv (chainF A (A.N t).1.toNat (A.N t).1))).sep (.rstore rb A rs)) from by
                have h := Chain_at h1 t _ hhd (by show A.nV ≤ _; omega)
                rw [← ht] at h
                refine h.mono ?_
                rintro e w' ⟨lv, st', rfl, h'⟩
                rw [chainF_at] at h'
                exact ⟨lv, st', rfl, b1 _ _ h'⟩)
              have HRC := Lib.hid (fun (W : World) (st' : Int) (lv : Value) (hW : Has [] w W (((Part.store b (A.at st')).sep (.nums lv (chainF A (A.N t).1.toNat (A.N t).1))).sep (.rstore rb A rs))) => show Calls Tryd.prog 34 #[.pointer (some ⟨rb, 0, none⟩), .int .i64 (j : Int)] W fun e w' => ∃ rv, e = .returned rv ∧ Has [] w w' (((Part.store b (A.at st')).sep (.nums lv (chainF A (A.N t).1.toNat (A.N t).1))).sep ((Part.rstore rb A rs).sep (.nums rv (chainF A (A.N t).1.toNat (A.N t).1)))) from by
                obtain ⟨_, q1, _⟩ := hW.left
                obtain ⟨_, q2, _⟩ := q1.left
                have hok2 : AOk A := ⟨q2.stOk.fit, q2.stOk.big, q2.stOk.word, q2.stOk.headLe, q2.stOk.nextLe⟩
                obtain ⟨_, q3, _, _, b3⟩ := hW.right
                have h := rChain_at q3 hok2 t _ hhd (by omega)
                rw [← ht] at h
                refine h.mono ?_
                rintro e w' ⟨rv, rfl, h'⟩
                exact ⟨rv, rfl, b3 _ _ h'⟩)
              have hl9 : (chainF A (A.N t).1.toNat (A.N t).1).length ≤ 6000 := by
                rw [← chainF_at A st]
                have : ((A.at st).N t).1.toNat ≤ 6000 := by show (A.N t).1.toNat ≤ 6000; omega
                exact Nat.le_trans hl3 this
              clear h1 b1 hok hn ht hhd hle hl3 hle'
              generalize chainF A (A.N t).1.toNat (A.N t).1 = L at *
              go_wp2_with fail
              refine HCH.out.mono ?_
              rintro e w7 ⟨lv, st', rfl, hX⟩
              have HR7 := Lib.hid (HRC.out _ _ _ hX)
              clear hX HCH HX
              go_wp2_with fail
              refine HR7.out.mono ?_
              rintro e w8 ⟨rv, rfl, hX⟩
              have r1 : RowAt w8 lv L.length (fun j => .int .i64 ((L.getD j 0 : Nat) : Int)) := by
                obtain ⟨_, h4, _⟩ := hX.left
                obtain ⟨_, h6, _⟩ := h4.right
                exact nums_rowAt h6
              have r2 : RowAt w8 rv L.length (fun j => .int .i64 ((L.getD j 0 : Nat) : Int)) := by
                obtain ⟨_, h4, _⟩ := hX.right
                obtain ⟨_, h6, _⟩ := h4.right
                exact nums_rowAt h6
              have HI := Lib.hid (ints_same _ _ _ _ _ r1 r2 (by simp only [maxLen]; omega))
              have HX8 := Lib.hid (show Has [] w w8 (.two b rb (A.at st') A rs) from hX.weaken (Part.Imp.sep (Part.Imp.fst _ _) (Part.Imp.fst _ _)))
              clear hX r1 r2 HR7
              go_wp2_with fail
              refine HI.out.mono ?_
              rintro e w9 ⟨rfl, qq, rfl⟩
              go_wp2_with fail
              go_roundg (A.nN + 2 - (j + 1))
              case measure => rw [HKJ.out]; omega
              case rel => exact ⟨j + 1, st', by omega, rfl, by go_num, HX8.out.drewN _⟩
            · have hn' : A.isN (j : Int) = false := by simpa using hn
              have HCH := Lib.hid (Chain_none h1 (j : Int) hn')
              obtain ⟨_, q3, _, _, b3⟩ := Has.right (A := .store b (A.at st)) (B := .rstore rb A rs) HX.out
              have HR7 := Lib.hid (rChain_no q3 (j : Int) hn')
              have HI := Lib.hid (fun W => ints_same W (.slice none 0 0) (.slice none 0 0) 0 (fun _ => 0) ⟨none, 0, rfl, fun h => by omega⟩ ⟨none, 0, rfl, fun h => by omega⟩ (by simp only [maxLen]; omega))
              clear h1 b1 hok hn hn' q3 b3
              go_wp2_with fail
              refine HCH.out.mono ?_
              rintro e w7 ⟨rfl, rfl⟩
              go_wp2_with fail
              refine HR7.out.mono ?_
              rintro e w8 ⟨rfl, rfl⟩
              go_wp2_with fail
              refine (HI.out _).mono ?_
              rintro e w9 ⟨rfl, qq, rfl⟩
              go_wp2_with fail
              go_roundg (A.nN + 2 - (j + 1))
              case measure => rw [HKJ.out]; omega
              case rel => exact ⟨j + 1, st, by omega, rfl, by go_num, HX.out.drewN _⟩
          · have g1 : decide ((j : Int) ≤ (A.nN : Int) + 1) = false := by simp; omega
            have HKX := Lib.hid HX.out.keeps
            go_wp2_with fail
            go_ret
            exact ⟨rfl, HKX.out⟩)
end Go.Proofs.YtlaffmdflleeeaaDoor
