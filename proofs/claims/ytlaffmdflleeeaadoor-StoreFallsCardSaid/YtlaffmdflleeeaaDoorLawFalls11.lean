/- The walk of StoreFalls: true at all scripts, and nothing that was there has changed. -/
import Derived.Test.YtlaffmdflleeeaaDoorLoads11
import Derived.Test.YtlaffmdflleeeaaDoorStoreShown
import Derived.Test.YtlaffmdflleeeaaDoorLawApart11
namespace Go.Proofs.YtlaffmdflleeeaaDoor
open Go Go.RowKit
set_option linter.unusedVariables false

variable {o : List Nat} {w0 w : World} {b rb : Nat} {A A' : ASt} {rs : Int}

/-- A fresh reference beside a fresh store. -/
theorem two_new {ab n : Nat} (h : Has o w0 w (.store b (newSt ab n 0))) : Has o w0 (w.alloc (.cells #[.slice none 0 0, .slice none 0 0, .slice none 0 0, .int .i64 n, .int .i64 0] 59)) (.two b w.heap.size (newSt ab n 0) (newSt ab n 0) 0) := by
  have h1 := h.beside (Has.madeBlk #[.slice none 0 0, .slice none 0 0, .slice none 0 0, .int .i64 n, .int .i64 0] 59 (rfF (.slice none 0 0) (.slice none 0 0) (.slice none 0 0) n 0) 5 rfl (fun i hi => match i, hi with | 0, _ => rfl | 1, _ => rfl | 2, _ => rfl | 3, _ => rfl | 4, _ => rfl))
  have h2 := h1.beside ((Has.rowsNil _ 100 2 (rnF (newSt ab n 0))).beside ((Has.rowsNil _ 109 5 (rvF (newSt ab n 0))).beside (Has.rowsNil _ 111 2 (rtF (newSt ab n 0)))))
  have h3 := h2.assoc
  obtain ⟨o9, h9, _, _, b9⟩ := h3.right
  refine b9 _ _ ?_
  refine Has.rfShutAs (x := ⟨.slice none 0 0, .slice none 0 0, .slice none 0 0⟩) (fr := (n : Int)) h9 ?_
  unfold ASt.free
  rw [newSt_used]
  show (n : Int) = (n : Int) - 0
  omega

def stepAt (w : World) (b off i : Nat) (s : StV) : Prop :=
  w.cell? ⟨b, off + i * 7, none⟩ = some (.int .i64 s.k) ∧ w.cell? ⟨b, off + i * 7 + 1, none⟩ = some (.int .i64 s.a) ∧ w.cell? ⟨b, off + i * 7 + 2, none⟩ = some (.int .i64 s.b) ∧ w.cell? ⟨b, off + i * 7 + 3, none⟩ = some (.int .i64 s.c) ∧ w.cell? ⟨b, off + i * 7 + 4, none⟩ = some (.int .u64 s.v) ∧ w.cell? ⟨b, off + i * 7 + 5, none⟩ = some (.int .u64 s.w) ∧ w.cell? ⟨b, off + i * 7 + 6, none⟩ = some (.string s.t)
theorem stepAt.kept {w' : World} {g off i : Nat} {s : StV} (h : stepAt w g off i s) (k : Kept [] w w') : stepAt w' g off i s :=
  ⟨k.cell h.1 (by simp), k.cell h.2.1 (by simp), k.cell h.2.2.1 (by simp), k.cell h.2.2.2.1 (by simp), k.cell h.2.2.2.2.1 (by simp), k.cell h.2.2.2.2.2.1 (by simp), k.cell h.2.2.2.2.2.2 (by simp)⟩

theorem two_fields (h : Has o w0 w (.two b rb A A' rs)) : ∃ p c, w.cell? ⟨rb, 0, none⟩ = some (.slice p A'.nN c) := by
  obtain ⟨_, h1, _⟩ := Has.right (A := .store b A) (B := .rstore rb A' rs) h
  obtain ⟨x, h1⟩ := h1.rfOpen
  obtain ⟨⟨p, c, e⟩, _⟩ := RfP.slices h1
  have := (RfP.fields h1).1
  rw [e] at this
  exact ⟨p, c, this⟩

set_option maxHeartbeats 16000000 in
set_option maxRecDepth 100000 in
theorem falls_law (w : World) (hT : TabAt w) (n : Nat) (z : Nat → StV) (q : Option Addr) (qcap : Nat) (hn : n ≤ 140737488351232) (hz : ∀ i, i < n → (z i).ok) (hp : 0 < n → ∃ b off, q = some ⟨b, off, none⟩ ∧ b < w.heap.size ∧ ∀ i, i < n → stepAt w b off i (z i)) :
    Calls Tryd.prog 7 #[.slice q n qcap] w fun e w' => e = .returned (.bool true) ∧ Kept [] w w' := by
  have HT := Lib.hid hT
  have HP := Lib.hid hp
  have HZ := Lib.hid hz
  clear hT hp hz
  go_enter Tryd.func7, Tryd.ntmps7
  go_wp2_with fail
  refine (shown_calls w HT.out).mono ?_
  rintro e w1 ⟨rfl, hk⟩
  have HK := Lib.hid hk
  clear hk
  go_wp2_with fail
  refine (new_both w w1 HK.out 2000 (by omega) (by omega)).mono ?_
  rintro e w2 ⟨ab, rfl, hA⟩
  have HA := Lib.hid hA
  clear hA
  go_wp2_with fail
  refine (new_store (by omega) HA.out).mono ?_
  rintro e w3 ⟨b, rfl, hX⟩
  have HX := Lib.hid (two_new hX)
  obtain ⟨rb, hrb⟩ : ∃ rb, rb = w3.heap.size := ⟨_, rfl⟩
  rw [← hrb] at HX
  clear hX HA
  go_wp2_with fail
  rw [← hrb]
  clear hrb
  go_loopg [9] n (fun k iv wr => ∃ (i : Nat) (A : ASt) (rs : Int), i ≤ n ∧ k = n - i ∧ i ≤ 300 ∧ iv = .int .i64 i ∧ Small A (3 * i) ∧ Has [] w wr (.two b rb A A rs))
  case atStart => exact ⟨0, _, _, Nat.zero_le _, rfl, by omega, rfl, ⟨Nat.le_refl _, Nat.le_refl _, Nat.le_refl _⟩, HX.out⟩
  case round =>
    clear HX
    obtain ⟨i, A, rs, hi, hk, hi3, rfl, hsm, hX⟩ := hrel
    have HKK := Lib.hid hk
    have HX := Lib.hid hX
    have HSM := Lib.hid hsm
    clear hk hX hsm
    by_cases hlt : i < n ∧ i < 300
    · obtain ⟨hlt, hlt2⟩ := hlt
      have hd : decide ((i : Int) < (n : Int)) = true := by simp; omega
      have hd' : decide (i < n) = true := by simp; omega
      have hdd : decide ((i : Int) < 300) = true := by simp; omega
      have hdd' : decide (i < 300) = true := by simp; omega
      obtain ⟨qb, qoff, rfl, _, hc⟩ := HP.out (by omega)
      have hst := (hc i hlt)
      have hok := HZ.out i hlt
      generalize z i = s at *
      have HST := Lib.hid hst
      have HOK := Lib.hid hok
      obtain ⟨c0, c1, c2, c3, c4, c5, c6⟩ := hst.kept HX.out.keeps
      have HM := Lib.hid (makes_walk HX.out HT.out tab_nil HSM.out (by omega) s.k s.a s.b s.c s.v s.w s.t hok.v0 hok.v1 hok.w0 hok.w1)
      clear hc hst hok HX
      go_wp2_with fail
      refine HM.out.mono ?_
      rintro e w4 ⟨rfl, A1, rs1, hdid, hX⟩
      have hsm1 := HSM.out.nxt hdid.1
      obtain ⟨d0, d1, d2, d3, d4, d5, d6⟩ := HST.out.kept hX.keeps
      have HM2 := Lib.hid (swaps_walk hX HT.out tab_nil hsm1 (by omega) s.k s.a s.b s.c s.v s.w s.t HOK.out.v0 HOK.out.v1 HOK.out.w0 HOK.out.w1)
      have HSM1 := Lib.hid hsm1
      clear hX hdid hsm1 HM
      go_wp2_with fail
      refine HM2.out.mono ?_
      rintro e w5 ⟨rfl, A2, rs2, hdid, hX⟩
      have hsm2 := HSM1.out.nxt hdid.1
      obtain ⟨x0, x1, x2, x3, x4, x5, x6⟩ := HST.out.kept hX.keeps
      have HM3 := Lib.hid (loads_walk hX HT.out tab_nil hsm2 (by omega) s.k s.a s.b s.c s.v s.w s.t HOK.out.v0 HOK.out.v1 HOK.out.w0 HOK.out.w1)
      have HSM2 := Lib.hid hsm2
      clear hX hdid hsm2 HM2
      go_wp2_with fail
      refine HM3.out.mono ?_
      rintro e w6 ⟨rfl, A3, rs3, hdid, hX⟩
      have HSM3 := Lib.hid (HSM2.out.nxt hdid.1)
      have HX6 := Lib.hid hX
      clear hX hdid HM3
      go_wp2_with fail
      go_roundg (n - (i + 1))
      case measure => rw [HKK.out]; omega
      case rel => exact ⟨i + 1, A3, rs3, by omega, rfl, by omega, by go_num, HSM3.out, HX6.out⟩
    · have hstop : (i < n ∧ decide ((i : Int) < (n : Int)) = true ∧ decide (i < n) = true ∧ decide ((i : Int) < 300) = false ∧ decide (i < 300) = false) ∨ (decide ((i : Int) < (n : Int)) = false ∧ decide (i < n) = false) := by
        by_cases h1 : i < n
        · left; simp; omega
        · right; simp; omega
      have hN9 : A.nN ≤ 900 := by have := HSM.out.nN; omega
      have hV9 : A.nV ≤ 900 := by have := HSM.out.nV; omega
      clear hlt
      rcases hstop with ⟨_, x1, x2, x3, x4⟩ | ⟨x1, x2⟩
      all_goals (
        go_wp2_with fail
        go_loopg [10] A.nN (fun k jv wx => ∃ (j : Nat) (st : Int), j ≤ A.nN ∧ k = A.nN - j ∧ jv = .int .i64 ((j : Int) + 1) ∧ Has [] w wx (.two b rb (A.at st) A rs))
        case atStart => exact ⟨0, A.steps, Nat.zero_le _, rfl, rfl, HX.out⟩
        case round =>
          clear HX
          obtain ⟨j, st, hj, hk2, rfl, hX⟩ := hrel
          have HKJ := Lib.hid hk2
          obtain ⟨rp, rc, y0⟩ := two_fields hX
          have HX := Lib.hid hX
          clear hk2 hX
          by_cases hjn : j < A.nN
          · have g1 : decide ((j : Int) + 1 ≤ (A.nN : Int)) = true := by simp; omega
            have hhd := (some_of (A := A.at st) (i := j) hjn).1
            obtain ⟨o1, h1, _, _, b1⟩ := Has.left (A := .store b (A.at st)) (B := .rstore rb A rs) HX.out
            have hok := h1.stOk
            have hle := hok.headLe j _ hhd
            obtain ⟨hl1, hl2, hl3⟩ := chain_live hok (A.N j).1.toNat (A.N j).1 hle
            have hle' : (A.N j).1 ≤ (A.nV : Int) := hle
            have HCH := Lib.hid (show Calls Tryd.prog 18 #[.pointer (some ⟨b, 0, none⟩), .int .i64 ((j : Int) + 1)] _ fun e w' => ∃ lv st', e = .returned lv ∧ Has [] w w' (((Part.store b (A.at st')).sep (.nums lv (chainF A (A.N j).1.toNat (A.N j).1))).sep (.rstore rb A rs)) from by
              have h := Chain_at h1 j _ hhd (by show A.nV ≤ _; omega)
              refine h.mono ?_
              rintro e w' ⟨lv, st', rfl, h'⟩
              rw [chainF_at] at h'
              exact ⟨lv, st', rfl, b1 _ _ h'⟩)
            have hl1' : ∀ v ∈ chainF A (A.N j).1.toNat (A.N j).1, 1 ≤ v ∧ A.ver (v - 1) = true := fun v hv => by
              rw [← chainF_at A st] at hv
              exact ⟨(hl1 v hv).1, (hl1 v hv).2.2⟩
            have hl2' : (chainF A (A.N j).1.toNat (A.N j).1).Pairwise (· > ·) := by rw [← chainF_at A st]; exact hl2
            have hl3' : (chainF A (A.N j).1.toNat (A.N j).1).length ≤ 900 := by
              rw [← chainF_at A st]
              have : ((A.at st).N j).1.toNat ≤ 900 := by show (A.N j).1.toNat ≤ 900; omega
              exact Nat.le_trans hl3 this
            have HL1 := Lib.hid hl1'
            have HL2 := Lib.hid hl2'
            clear h1 b1 hok hle hl1 hl2 hl3 hhd HX hl1' hl2' hle'
            generalize chainF A (A.N j).1.toNat (A.N j).1 = L at *
            go_wp2_with fail
            refine HCH.out.mono ?_
            rintro e w7 ⟨lv, st', rfl, hX⟩
            obtain ⟨o2, h2, _⟩ := hX.left
            obtain ⟨o3, h3, _⟩ := h2.right
            obtain ⟨np, nc, hlv, _, _, _⟩ := nums_open h3
            subst hlv
            have HX7 := Lib.hid hX
            clear hX h2 h3 HCH
            go_wp2_with fail
            go_loopg [12] L.length (fun k tv wy => ∃ (t : Nat) (st' : Int), t ≤ L.length ∧ k = L.length - t ∧ tv = .int .i64 t ∧ Has [] w wy (((Part.store b (A.at st')).sep (.nums (.slice np L.length nc) L)).sep (.rstore rb A rs)))
            case atStart => exact ⟨0, st', Nat.zero_le _, rfl, rfl, HX7.out⟩
            case round =>
              clear HX7
              obtain ⟨t, st2, ht, hk3, rfl, hX⟩ := hrel
              have HKT := Lib.hid hk3
              by_cases htl : t < L.length
              · have q1 : decide ((t : Int) < (L.length : Int)) = true := by simp; omega
                have q1' : decide (t < L.length) = true := by simp; omega
                have hbt : 0 ≤ (t : Int) ∧ (t : Int) < (L.length : Int) := by omega
                obtain ⟨o2, h2, _, _, b2⟩ := hX.left
                obtain ⟨o3, h3, _⟩ := h2.right
                obtain ⟨np', nc', he, _, _, hcc⟩ := nums_open h3
                obtain ⟨rfl, rfl⟩ : np = np' ∧ nc = nc' := by simpa using he
                obtain ⟨gb, rfl, hcd⟩ := hcc (by omega)
                have ct := hcd t htl
                obtain ⟨hv1, hv2⟩ := HL1.out L[t] (List.getElem_mem htl)
                obtain ⟨p, hp⟩ : ∃ p, L[t] = p + 1 := ⟨L[t] - 1, by omega⟩
                rw [show L[t] - 1 = p by omega] at hv2
                obtain ⟨o4, h4, _, _, b4⟩ := h2.left
                have HBG := Lib.hid (show Calls Tryd.prog 26 #[.pointer (some ⟨b, 0, none⟩), .int .i64 (L[t] : Int)] _ fun e w' => e = .returned (.tuple #[.int .u64 (A.V p).begin_, .int .i64 0]) ∧ Has [] w w' (((Part.store b (A.at st2).step).sep (.nums (.slice (some ⟨gb, 0, none⟩) L.length nc) L)).sep (.rstore rb A rs)) from by
                  have h := begin_at h4 p (A.V p).begin_ ((some_ofV (A := A.at st2) hv2).1)
                  rw [show ((p : Int) + 1) = (L[t] : Int) by omega] at h
                  refine h.mono ?_
                  rintro e w' ⟨rfl, h'⟩
                  exact ⟨rfl, b2 _ _ (b4 _ _ h')⟩)
                have hprev : 0 < t → ∃ u, L[t - 1]? = some u ∧ L[t] < u := fun h0 => by
                  refine ⟨L[t - 1]'(by omega), List.getElem?_eq_getElem (by omega), ?_⟩
                  exact List.pairwise_iff_getElem.1 HL2.out (t - 1) t (by omega) htl (by omega)
                have HPV := Lib.hid hprev
                clear hk3 hX h2 b2 h3 hcc he hv1 hv2 h4 b4 hprev hp
                have HCD := Lib.hid hcd
                clear hcd
                generalize hvt : L[t] = vt at *
                have HVT := Lib.hid hvt
                clear hvt
                go_wp2_with fail
                refine HBG.out.mono ?_
                rintro e w8 ⟨rfl, hX⟩
                have HX8 := Lib.hid hX
                have hcell : ∀ k (hk : k < L.length), w8.cell? ⟨gb, k, none⟩ = some (.int .i64 (L[k] : Int)) := by
                  obtain ⟨o2, h2, _⟩ := hX.left
                  obtain ⟨o3, h3, _⟩ := h2.right
                  obtain ⟨np', nc', he, _, _, hcc⟩ := nums_open h3
                  obtain ⟨g', hg', hcd⟩ := hcc (by omega)
                  obtain rfl : gb = g' := by simp only [Value.slice.injEq] at he; rw [hg'] at he; simpa using he.1
                  exact hcd
                have z1 := hcell t htl
                rw [HVT.out] at z1
                have HCL := Lib.hid hcell
                clear hX hcell HBG
                by_cases ht0 : t = 0
                · have r1 : decide ((t : Int) > 0) = false := by simp; omega
                  have r1' : decide (0 < t) = false := by simp; omega
                  go_wp2_with fail
                  go_quiet (fail)
                  go_wp2_with fail
                  go_roundg (L.length - (t + 1))
                  case measure => rw [HKT.out]; omega
                  case rel => exact ⟨t + 1, wrap64 (st2 + 1), by omega, rfl, by go_num, HX8.out.drewN _⟩
                · have r1 : decide ((t : Int) > 0) = true := by simp; omega
                  have r1' : decide (0 < t) = true := by simp; omega
                  obtain ⟨u, hu1, hu2⟩ := HPV.out (by omega)
                  have z0 := HCL.out (t - 1) (by omega)
                  have hu3 : L[t - 1]'(by omega) = u := by
                    rw [List.getElem?_eq_getElem (by omega)] at hu1
                    exact Option.some.inj hu1
                  rw [hu3, show ((t - 1 : Nat)) = t - 1 from rfl] at z0
                  have hbp : 0 ≤ (t : Int) - 1 ∧ (t : Int) - 1 < (L.length : Int) := by omega
                  have hpn : ((t : Int) - 1).toNat = t - 1 := by omega
                  have s1 : decide ((u : Int) ≤ (vt : Int)) = false := by simp; omega
                  have s1' : decide (u ≤ vt) = false := by simp; omega
                  clear hu1 hu3
                  go_wp2_with fail
                  go_quiet (fail)
                  go_wp2_with fail
                  go_roundg (L.length - (t + 1))
                  case measure => rw [HKT.out]; omega
                  case rel => exact ⟨t + 1, wrap64 (st2 + 1), by omega, rfl, by go_num, HX8.out.drewN _⟩
              · have q1 : decide ((t : Int) < (L.length : Int)) = false := by simp; omega
                have q1' : decide (t < L.length) = false := by simp; omega
                have HX8 := Lib.hid (show Has [] w _ (.two b rb (A.at st2) A rs) from hX.weaken (Part.Imp.sep (Part.Imp.fst _ _) (Part.Imp.refl _)))
                clear hk3 hX
                go_wp2_with fail
                go_roundg (A.nN - (j + 1))
                case measure => rw [HKJ.out]; omega
                case rel => exact ⟨j + 1, st2, by omega, rfl, by go_num, HX8.out⟩
          · have g1 : decide ((j : Int) + 1 ≤ (A.nN : Int)) = false := by simp; omega
            have HKX := Lib.hid HX.out.keeps
            go_wp2_with fail
            go_ret
            exact ⟨rfl, HKX.out⟩)
end Go.Proofs.YtlaffmdflleeeaaDoor
