/- The walks of the reference's chains, and of what it takes away. -/
import Derived.Test.YtlaffmdflleeeaaDoorRefMake
import Derived.Test.YtlaffmdflleeeaaDoorPlainBack11
namespace Go.Proofs.YtlaffmdflleeeaaDoor
open Go Go.RowKit
set_option linter.unusedVariables false

variable {o : List Nat} {w0 w : World} {b : Nat} {x : RfIx} {A : ASt} {fr rs : Int}

/-- What is so of every store. -/
structure AOk (A : ASt) : Prop where
  fit : A.used ≤ A.size
  big : A.size ≤ 65536
  word : ∀ l v, A.at_ l = some v → 0 ≤ v ∧ v < 18446744073709551616
  headLe : ∀ i v, A.at_ (.head i) = some v → v ≤ A.nV
  nextLe : ∀ i v, A.at_ (.next i) = some v → v ≤ i
theorem StRep.ok {S : Ar} {C : Cells} (h : StRep S C A) : AOk A := ⟨by rw [← h.count, ← h.size]; exact cnt_le _ _, h.big, h.word, h.headLe, h.nextLe⟩
theorem Has.stOk {b : Nat} (h : Has o w0 w (.store b A)) : AOk A := by
  obtain ⟨x, hr, _⟩ := h.stOpen
  exact hr.ok

theorem RfP.putGone (h : Has o w0 w (RfP b x A fr rs)) {i g cap : Nat} (hi : i < A.nV) (e : x.vv = .slice (some ⟨g, 0, none⟩) A.nV cap) : Has o w0 (w.setCell ⟨g, i * 5 + 4, none⟩ (.bool true)) (RfP b x (A.goneV i) fr rs) := by
  obtain ⟨o1, h1, b1⟩ := RfP.vers h
  obtain ⟨g2, cap2, e2, _, _, hput⟩ := h1.rowsAt (rvF_len _) hi
  rw [e] at e2
  obtain ⟨rfl, rfl⟩ : g = g2 ∧ cap = cap2 := by simpa using e2
  have h2 := hput 4 (.bool true) (by omega)
  have e2 : (fun d => if d = i then (rvF A i).set 4 (.bool true) else rvF A d) = rvF (A.goneV i) := funext fun d => by
    unfold rvF ASt.goneV
    by_cases ed : d = i
    · subst ed; simp
    · simp [ed]
  rw [e2] at h2
  exact b1 _ _ h2 rfl rfl rfl rfl
theorem RfP.putGoneT (h : Has o w0 w (RfP b x A fr rs)) {i g cap : Nat} (hi : i < A.nT) (e : x.tv = .slice (some ⟨g, 0, none⟩) A.nT cap) : Has o w0 (w.setCell ⟨g, i * 2 + 1, none⟩ (.bool true)) (RfP b x (A.goneT i) fr rs) := by
  obtain ⟨o1, h1, b1⟩ := RfP.txns h
  obtain ⟨g2, cap2, e2, _, _, hput⟩ := h1.rowsAt (rtF_len _) hi
  rw [e] at e2
  obtain ⟨rfl, rfl⟩ : g = g2 ∧ cap = cap2 := by simpa using e2
  have h2 := hput 1 (.bool true) (by omega)
  have e2 : (fun d => if d = i then (rtF A i).set 1 (.bool true) else rtF A d) = rtF (A.goneT i) := funext fun d => by
    unfold rtF ASt.goneT
    by_cases ed : d = i
    · subst ed; simp
    · simp [ed]
  rw [e2] at h2
  exact b1 _ _ h2 rfl rfl rfl rfl

theorem goneV_free {i : Nat} (hv : A.ver i = true) : (A.goneV i).free = A.free + 3 := by
  have := goneV_used hv
  unfold ASt.free
  show (A.size : Int) - _ = _
  omega
theorem goneT_free {i : Nat} (hv : A.txn i = true) : (A.goneT i).free = A.free + 1 := by
  have := goneT_used hv
  unfold ASt.free
  show (A.size : Int) - _ = _
  omega

set_option maxHeartbeats 4000000 in
set_option maxRecDepth 100000 in
theorem rchain_walk (h : Has o w0 w (.rstore b A rs)) (hok : AOk A) (n : Int) (hn : n ≤ A.nV) (hV : A.nV ≤ 1000000000) :
    Calls Tryd.prog 73 #[.pointer (some ⟨b, 0, none⟩), .int .i64 n] w fun e w' => ∃ lv, e = .returned lv ∧ Has o w0 w' ((Part.rstore b A rs).sep (.nums lv (chainF A n.toNat n))) := by
  obtain ⟨x, h⟩ := h.rfOpen
  have HV0 := Lib.hid (rversion_walk h n)
  have HX := Lib.hid (h.beside (Has.nilNums _))
  have HO := Lib.hid hok
  obtain ⟨i0, hi0, hz0, hz1, hz2⟩ := info_parts info_num
  clear h hok
  go_enter Tryd.func73, Tryd.ntmps73
  go_wp2_with fail
  refine HV0.out.mono ?_
  rintro e w' ⟨rfl, rfl⟩
  go_wp2_with fail
  go_loopg [1, 5, 6] (n.toNat + 1) (fun k nv lv okv wr => ∃ (m : Int) (f : Nat) (cs : List Nat), nv = .int .i64 m ∧ m ≤ f ∧ f ≤ n.toNat ∧ k = f + 1 ∧ okv = .bool (A.isV m) ∧ chainF A n.toNat n = cs ++ chainF A f m ∧ cs.length + f ≤ n.toNat ∧ Has o w0 wr ((RfP b x A A.free rs).sep (.nums lv cs)))
  case atStart => exact ⟨n, n.toNat, [], rfl, by omega, Nat.le_refl _, rfl, rfl, rfl, by simp, HX.out⟩
  case round =>
    clear HX HV0
    obtain ⟨m, f, cs, rfl, hmf, hfn, hk, rfl, hcs, hlen, hX⟩ := hrel
    have HKK := Lib.hid hk
    by_cases hc : A.isV m = true
    · obtain ⟨i, rfl, hver⟩ := isV_at hc
      obtain ⟨f', rfl⟩ : ∃ f', f = f' + 1 := ⟨f - 1, by omega⟩
      have hlt := ver_lt hver
      have hl : A.at_ (.next i) = some (A.V i).next := by show (if A.ver i = true then some (A.V i).next else none) = _; rw [if_pos hver]
      have hnx := HO.out.nextLe i _ hl
      have hwd := HO.out.word _ _ hl
      rw [hc]
      rw [chainF_go hver] at hcs
      have HCS := Lib.hid hcs
      obtain ⟨o3, h3, _⟩ := hX.right
      obtain ⟨np, nc, hnv, hnl, hrow, _⟩ := nums_open h3
      have HROW := Lib.hid hrow
      have HX := Lib.hid hX
      have hl9 : cs.length ≤ 1000000000 := by omega
      clear hk hcs hX h3 hnv hrow hl hnl hc
      go_wp2_with (at_builtin; refine wpList_append_new rfl (.tmp 11) (.tmp 13) 22 rfl 3 i0 (.int .i64 0) 1 8 Tryd.underlying22 hi0 hz0 hz1 hz2 rfl (by decide) _ _ _ rfl (HROW.out.alloc _) ⟨_, 0, none⟩ 1 1 [.int .i64 ((i : Int) + 1)] rfl rfl (cell_one _ _ _ _ (by simp)) (by simp [Value.oneCell']) (by simp only [maxLen]; omega) (by omega) ?_)
      intro v' w5 happ
      have HX5 := Lib.hid (nums_more1 (c := i + 1) _ HX.out happ)
      obtain ⟨o4, h4, _⟩ := HX5.out.left
      obtain ⟨_, c1, _⟩ := RfP.fields h4
      obtain ⟨g, cap, e, _, _, _, _, y3, _⟩ := RfP.ver h4 hlt
      rw [e] at c1
      have HV2 := Lib.hid (rversion_walk h4 (A.V i).next)
      have hb : 0 ≤ (i : Int) ∧ (i : Int) < (A.nV : Int) := by omega
      clear happ HROW HX h4 e
      go_wp2_with fail
      refine HV2.out.mono ?_
      rintro e w7 ⟨rfl, rfl⟩
      go_wp2_with fail
      go_roundg (f' + 1)
      case measure => rw [HKK.out]; omega
      case rel =>
        refine ⟨(A.V i).next, f', cs ++ [i + 1], rfl, by omega, by omega, rfl, rfl, ?_, ?_, HX5.out⟩
        · rw [HCS.out]; simp
        · rw [List.length_append]; simp; omega
    · have hc' : A.isV m = false := by simpa using hc
      rw [hc']
      have hstop : ¬ (1 ≤ m ∧ A.ver (m - 1).toNat = true) := by
        rintro ⟨h1, h2⟩
        refine hc ?_
        unfold ASt.isV; rw [h2]; simp; omega
      rw [chainF_stop hstop, List.append_nil] at hcs
      have HCS := Lib.hid hcs
      have HX := Lib.hid hX
      clear hk hcs hX hc hc' hstop
      go_wp2_with fail
      go_ret
      refine ⟨_, rfl, ?_⟩
      rw [HCS.out]
      obtain ⟨o9, h9, _, _, b9⟩ := HX.out.left
      exact b9 _ _ h9.rfShut

set_option maxHeartbeats 2000000 in
set_option maxRecDepth 100000 in
theorem rChain_at (h : Has o w0 w (.rstore b A rs)) (hok : AOk A) (i : Nat) (v : Int) (hl : A.at_ (.head i) = some v) (hV : A.nV ≤ 1000000000) :
    Calls Tryd.prog 34 #[.pointer (some ⟨b, 0, none⟩), .int .i64 ((i : Int) + 1)] w fun e w' => ∃ lv, e = .returned lv ∧ Has o w0 w' ((Part.rstore b A rs).sep (.nums lv (chainF A v.toNat v))) := by
  have HC := Lib.hid (rchain_walk h hok v (hok.headLe i v hl) hV)
  obtain ⟨x, h⟩ := h.rfOpen
  have hlt := at_head hl
  have h9 : A.nN ≤ 9223372036854775807 := Nat.le_trans (RfP.small h).1 (by decide)
  obtain ⟨c0, c1, c2, c3, c4, zf⟩ := RfP.fields h
  obtain ⟨g, cap, e, hgb, y0, y1, yf, _, _⟩ := RfP.node h hlt
  rw [e] at c0
  rw [in_head hl] at y0
  have HN := Lib.hid (show Calls Tryd.prog 72 #[.pointer (some ⟨b, 0, none⟩), .int .i64 ((i : Int) + 1)] w fun e w' => e = .returned (.bool true) ∧ w' = w from by
    have h5 := rnode_walk h ((i : Int) + 1)
    rw [is_node hlt] at h5
    exact h5)
  have hb : 0 ≤ (i : Int) ∧ (i : Int) < (A.nN : Int) := by omega
  clear h e hl zf yf hok
  go_enter Tryd.func34, Tryd.ntmps34
  go_wp2_with fail
  refine HN.out.mono ?_
  rintro e w' ⟨rfl, rfl⟩
  go_wp2_with fail
  refine HC.out.mono ?_
  rintro e w' ⟨lv, rfl, hX⟩
  have HX := Lib.hid hX
  clear hX
  go_wp2_with fail
  go_ret
  exact ⟨_, rfl, HX.out⟩

set_option maxHeartbeats 1000000 in
set_option maxRecDepth 100000 in
theorem rChain_no (h : Has o w0 w (.rstore b A rs)) (n : Int) (hn : A.isN n = false) :
    Calls Tryd.prog 34 #[.pointer (some ⟨b, 0, none⟩), .int .i64 n] w fun e w' => e = .returned (.slice none 0 0) ∧ w' = w := by
  obtain ⟨x, h⟩ := h.rfOpen
  have HN := Lib.hid (show Calls Tryd.prog 72 #[.pointer (some ⟨b, 0, none⟩), .int .i64 n] w fun e w' => e = .returned (.bool false) ∧ w' = w from by
    have h5 := rnode_walk h n
    rw [hn] at h5
    exact h5)
  clear h hn
  go_enter Tryd.func34, Tryd.ntmps34
  go_wp2_with fail
  refine HN.out.mono ?_
  rintro e w' ⟨rfl, rfl⟩
  go_wp2_with fail
  go_ret
  exact ⟨rfl, rfl⟩

set_option maxHeartbeats 2000000 in
set_option maxRecDepth 100000 in
theorem raway_walk (h : Has o w0 w (.rstore b A rs)) (i : Nat) (hver : A.ver i = true) (hs9 : A.size ≤ 65536) (hfit : A.used ≤ A.size) :
    Calls Tryd.prog 81 #[.pointer (some ⟨b, 0, none⟩), .int .i64 ((i : Int) + 1)] w fun e w' => e = .returned (.tuple #[]) ∧ Has o w0 w' (.rstore b (A.goneV i) rs) := by
  obtain ⟨x, h⟩ := h.rfOpen
  have hlt := ver_lt hver
  have h9 : A.nV ≤ 9223372036854775807 := Nat.le_trans (RfP.small h).2.1 (by decide)
  obtain ⟨c0, c1, c2, c3, c4, zf⟩ := RfP.fields h
  have z3 := zf 3 (by omega)
  obtain ⟨g, cap, e, hgb, y0, y1, y2, y3, y4, yf, _⟩ := RfP.ver h hlt
  have z4 := yf (i * 5 + 4)
  have hf9 : 0 ≤ A.free ∧ A.free ≤ 65536 := by unfold ASt.free; omega
  have HS := Lib.hid ((RfP.putFree (RfP.putGone h hlt e) (A.free + 3)).rfShutAs (goneV_free hver).symm)
  rw [e] at c1
  have hb : 0 ≤ (i : Int) ∧ (i : Int) < (A.nV : Int) := by omega
  clear h e zf yf hver
  go_enter Tryd.func81, Tryd.ntmps81
  generalize A.free = fr at *
  go_wp2_with fail
  go_end0
  exact ⟨rfl, HS.out⟩

set_option maxHeartbeats 4000000 in
set_option maxRecDepth 100000 in
theorem rcut_at (h : Has o w0 w (.rstore b A rs)) (hok : AOk A) (i : Nat) (nx : Int) (hl : A.at_ (.next i) = some nx) (hV : A.nV ≤ 1000000000)
    (hch : ∀ v ∈ chainF A nx.toNat nx, 1 ≤ v ∧ ((A.set (.next i) 0).ver (v - 1) = true)) (hpw : (chainF A nx.toNat nx).Pairwise (· > ·)) (hlen : (chainF A nx.toNat nx).length ≤ 1000000000) :
    Calls Tryd.prog 53 #[.pointer (some ⟨b, 0, none⟩), .int .i64 ((i : Int) + 1)] w fun e w' => e = .returned (.tuple #[.int .i64 ((chainF A nx.toNat nx).length : Nat), .int .i64 0]) ∧ Has o w0 w' (.rstore b ((A.set (.next i) 0).goneAll (chainF A nx.toNat nx)) rs) := by
  have hver := at_next hl
  have hlt := ver_lt hver
  have HC := Lib.hid (rchain_walk h hok nx (by have := hok.nextLe i nx hl; omega) hV)
  obtain ⟨x, h⟩ := h.rfOpen
  have h9 : A.nV ≤ 9223372036854775807 := Nat.le_trans (RfP.small h).2.1 (by decide)
  obtain ⟨c0, c1, c2, c3, c4, zf⟩ := RfP.fields h
  obtain ⟨g, cap, e, hgb, y0, y1, y2, y3, y4, yf, _⟩ := RfP.ver h hlt
  rw [e] at c1
  rw [in_next hl] at y3
  have HN := Lib.hid (show Calls Tryd.prog 80 #[.pointer (some ⟨b, 0, none⟩), .int .i64 ((i : Int) + 1)] w fun e w' => e = .returned (.bool true) ∧ w' = w from by
    have h5 := rversion_walk h ((i : Int) + 1)
    rw [is_ver hver] at h5
    exact h5)
  have hb : 0 ≤ (i : Int) ∧ (i : Int) < (A.nV : Int) := by omega
  have hus : (A.set (.next i) 0).used ≤ (A.set (.next i) 0).size := by rw [ASt.used_set, ASt.size_set]; exact hok.fit
  have hsz : (A.set (.next i) 0).size ≤ 65536 := by rw [ASt.size_set]; exact hok.big
  generalize chainF A nx.toNat nx = L at *
  have HUS := Lib.hid hus
  have HSZ := Lib.hid hsz
  have HCH := Lib.hid hch
  have HPW := Lib.hid hpw
  clear h e hl zf yf hok hver hus hsz hch hpw
  go_enter Tryd.func53, Tryd.ntmps53
  go_wp2_with fail
  refine HN.out.mono ?_
  rintro e w' ⟨rfl, rfl⟩
  go_wp2_with fail
  refine HC.out.mono ?_
  rintro e w2 ⟨lv, rfl, hX⟩
  obtain ⟨o1, h1, _, _, b1⟩ := hX.left
  obtain ⟨x2, h1⟩ := h1.rfOpen
  obtain ⟨_, d1, _⟩ := RfP.fields h1
  obtain ⟨g2, cap2, e2, hgb2, _, _, _, x3, _, xf, _⟩ := RfP.ver h1 hlt
  have z5 := xf (i * 5 + 3)
  have hX2 := b1 _ _ ((RfP.putNext h1 hlt e2 0).rfShutAs (free_set _ _ _).symm)
  rw [e2] at d1
  obtain ⟨o3, h3, _⟩ := hX.right
  obtain ⟨np, nc, hlv, _, _, _⟩ := nums_open h3
  have HX2 := Lib.hid hX2
  subst hlv
  clear hX h1 e2 xf b1 hX2 h3 HC
  go_wp2_with fail
  go_loopg [8] L.length (fun k iv wr => ∃ j : Nat, j ≤ L.length ∧ k = L.length - j ∧ iv = .int .i64 j ∧ ((A.set (.next i) 0).goneAll (L.take j)).used + 3 * j = (A.set (.next i) 0).used ∧ Has o w0 wr ((Part.rstore b ((A.set (.next i) 0).goneAll (L.take j)) rs).sep (.nums (.slice np L.length nc) L)))
  case atStart => exact ⟨0, Nat.zero_le _, rfl, rfl, rfl, HX2.out⟩
  case round =>
    clear HX2
    obtain ⟨j, hj, hk, rfl, hu, hX⟩ := hrel
    have HKK := Lib.hid hk
    have HU := Lib.hid hu
    by_cases hjl : j < L.length
    · have q1 : decide ((j : Int) < (L.length : Int)) = true := by simp; omega
      have q1' : decide (j < L.length) = true := by simp; omega
      have hbj : 0 ≤ (j : Int) ∧ (j : Int) < (L.length : Int) := by omega
      obtain ⟨o3, h3, _⟩ := hX.right
      obtain ⟨np', nc', he, _, _, hc⟩ := nums_open h3
      obtain ⟨rfl, rfl⟩ : np = np' ∧ nc = nc' := by simpa using he
      obtain ⟨gn, rfl, hcc⟩ := hc (by omega)
      have cj := hcc j hjl
      have hsn : L.take (j + 1) = L.take j ++ [L[j]] := by rw [List.take_add_one, List.getElem?_eq_getElem hjl]; rfl
      obtain ⟨hv1, hv2⟩ := HCH.out L[j] (List.getElem_mem hjl)
      have hnot : L[j] ∉ L.take j := by
        intro hm
        obtain ⟨k2, hk2, e⟩ := List.getElem_of_mem hm
        rw [List.getElem_take] at e
        rw [List.length_take] at hk2
        have := List.pairwise_iff_getElem.1 HPW.out k2 j (by omega) hjl (by omega)
        omega
      have hlive : ((A.set (.next i) 0).goneAll (L.take j)).ver (L[j] - 1) = true := by
        rw [goneAll_ver _ _ _ (fun v hv => (HCH.out v (List.mem_of_mem_take hv)).1), hv2]
        rw [show L[j] - 1 + 1 = L[j] by omega]
        simpa using hnot
      have hun := goneV_used hlive
      obtain ⟨o4, h4, _, _, b4⟩ := hX.left
      obtain ⟨p, hp⟩ : ∃ p, L[j] = p + 1 := ⟨L[j] - 1, by omega⟩
      have hgs := goneAll_same (A.set (.next i) 0) (L.take j)
      have haw := raway_walk h4 (L[j] - 1) hlive (by rw [hgs.1]; exact HSZ.out) (by rw [hgs.1]; have := HUS.out; omega)
      rw [show (((L[j] - 1 : Nat)) : Int) + 1 = (L[j] : Int) by omega, ← goneAll_snoc, ← hsn] at haw
      rw [← goneAll_snoc, ← hsn] at hun
      have HAW := Lib.hid haw
      have HB4 := Lib.hid b4
      have HUN := Lib.hid hun
      clear hk hu hX h3 he hc hcc hsn hv1 hv2 hnot hlive hun h4 b4 hp hgs haw
      generalize L[j] = vj at *
      go_wp2_with fail
      refine HAW.out.mono ?_
      rintro e w4 ⟨rfl, hX4⟩
      have HX4 := Lib.hid (HB4.out _ _ hX4)
      clear hX4
      go_wp2_with fail
      go_roundg (L.length - (j + 1))
      case measure => rw [HKK.out]; omega
      case rel => exact ⟨j + 1, by omega, rfl, by go_num, by have h1 := HU.out; have h2 := HUN.out; omega, HX4.out⟩
    · have q1 : decide ((j : Int) < (L.length : Int)) = false := by simp; omega
      have q1' : decide (j < L.length) = false := by simp; omega
      obtain rfl : j = L.length := by omega
      rw [List.take_length] at hX
      have HX := Lib.hid hX
      clear hk hX hu HU
      go_wp2_with fail
      go_ret2
      exact ⟨rfl, HX.out.fst⟩

set_option maxHeartbeats 4000000 in
set_option maxRecDepth 100000 in
theorem rdrop_at (h : Has o w0 w (.rstore b A rs)) (hok : AOk A) (i j : Nat) (nx : Int) (hh : A.at_ (.head i) = some ((j : Int) + 1)) (hl : A.at_ (.next j) = some nx) :
    Calls Tryd.prog 70 #[.pointer (some ⟨b, 0, none⟩), .int .i64 ((i : Int) + 1)] w fun e w' => e = .returned (.int .i64 0) ∧ Has o w0 w' (.rstore b ((A.set (.head i) nx).goneV j) rs) := by
  have hver := at_next hl
  have hltV := ver_lt hver
  have hltN := at_head hh
  obtain ⟨x, h⟩ := h.rfOpen
  have h9 : A.nV ≤ 9223372036854775807 := Nat.le_trans (RfP.small h).2.1 (by decide)
  have h8 : A.nN ≤ 9223372036854775807 := Nat.le_trans (RfP.small h).1 (by decide)
  have HN := Lib.hid (show Calls Tryd.prog 72 #[.pointer (some ⟨b, 0, none⟩), .int .i64 ((i : Int) + 1)] w fun e w' => e = .returned (.bool true) ∧ w' = w from by
    have h5 := rnode_walk h ((i : Int) + 1)
    rw [is_node hltN] at h5
    exact h5)
  have HV := Lib.hid (show Calls Tryd.prog 80 #[.pointer (some ⟨b, 0, none⟩), .int .i64 ((j : Int) + 1)] w fun e w' => e = .returned (.bool true) ∧ w' = w from by
    have h5 := rversion_walk h ((j : Int) + 1)
    rw [is_ver hver] at h5
    exact h5)
  obtain ⟨c0, c1, _⟩ := RfP.fields h
  obtain ⟨g, cap, e, hgb, y0, _, yf, _, _⟩ := RfP.node h hltN
  obtain ⟨g1, cap1, e1, hgb1, _, _, _, x3, _, _, _⟩ := RfP.ver h hltV
  have z0 := yf (i * 2)
  have hset := (RfP.putHead h hltN e nx).rfShutAs (free_set _ _ _).symm
  have HAW := Lib.hid (raway_walk (hset.quiet ((Kept.refl [] _).drew)) j (by rw [ASt.ver_set]; exact hver) (by rw [ASt.size_set]; exact hok.big) (by rw [ASt.used_set, ASt.size_set]; exact hok.fit))
  rw [e] at c0
  rw [e1] at c1
  rw [in_head hh] at y0
  rw [in_next hl] at x3
  have HX := Lib.hid h
  have hb : 0 ≤ (i : Int) ∧ (i : Int) < (A.nN : Int) := by omega
  have hb1 : 0 ≤ (j : Int) ∧ (j : Int) < (A.nV : Int) := by omega
  clear h e e1 hh hl yf hok hver hset
  go_enter Tryd.func70, Tryd.ntmps70
  go_wp2_with fail
  refine HN.out.mono ?_
  rintro e w' ⟨rfl, rfl⟩
  go_wp2_with fail
  refine HV.out.mono ?_
  rintro e w' ⟨rfl, rfl⟩
  have hidx : 0 ≤ IntKind.i64.wrap ↑i ∧ IntKind.i64.wrap ↑i < ↑A.nN := by unfold IntKind.wrap; simp [IntKind.bits, IntKind.signed]; omega
  have hidx1 : 0 ≤ IntKind.i64.wrap ↑j ∧ IntKind.i64.wrap ↑j < ↑A.nV := by unfold IntKind.wrap; simp [IntKind.bits, IntKind.signed]; omega
  go_wp2_with fail
  go_region
  go_wp2_with fail
  refine HAW.out.mono ?_
  rintro e w4 ⟨rfl, hX4⟩
  have HX4 := Lib.hid hX4
  clear hX4
  go_wp2_with fail
  go_ret
  exact ⟨rfl, HX4.out⟩

set_option maxHeartbeats 2000000 in
set_option maxRecDepth 100000 in
theorem rforget_at (h : Has o w0 w (.rstore b A rs)) (i : Nat) (hv : A.txn i = true) (hs9 : A.size ≤ 65536) (hfit : A.used ≤ A.size) :
    Calls Tryd.prog 69 #[.pointer (some ⟨b, 0, none⟩), .int .i64 ((i : Int) + 1)] w fun e w' => e = .returned (.int .i64 0) ∧ Has o w0 w' (.rstore b (A.goneT i) rs) := by
  obtain ⟨x, h⟩ := h.rfOpen
  have hlt := txn_lt hv
  have h9 : A.nT ≤ 9223372036854775807 := Nat.le_trans (RfP.small h).2.2 (by decide)
  obtain ⟨c0, c1, c2, c3, c4, zf⟩ := RfP.fields h
  have z3 := zf 3 (by omega)
  obtain ⟨g, cap, e, hgb, y0, y1, yf, _⟩ := RfP.txn h hlt
  have z1 := yf (i * 2 + 1)
  have hf9 : 0 ≤ A.free ∧ A.free ≤ 65536 := by unfold ASt.free; omega
  have HS := Lib.hid ((RfP.putFree (RfP.putGoneT h hlt e) (A.free + 1)).rfShutAs (goneT_free hv).symm)
  rw [e] at c2
  have HN := Lib.hid (show Calls Tryd.prog 84 #[.pointer (some ⟨b, 0, none⟩), .int .i64 ((i : Int) + 1)] w fun e w' => e = .returned (.bool true) ∧ w' = w from by
    have h5 := rtxn_walk h ((i : Int) + 1)
    rw [is_txn hv] at h5
    exact h5)
  have hb : 0 ≤ (i : Int) ∧ (i : Int) < (A.nT : Int) := by omega
  clear h e zf yf hv
  go_enter Tryd.func69, Tryd.ntmps69
  generalize A.free = fr at *
  go_wp2_with fail
  refine HN.out.mono ?_
  rintro e w' ⟨rfl, rfl⟩
  go_wp2_with fail
  go_ret
  exact ⟨rfl, HS.out⟩
set_option maxHeartbeats 1000000 in
set_option maxRecDepth 100000 in
theorem rcut_no (h : Has o w0 w (.rstore b A rs)) (n : Int) (hn : A.isV n = false) :
    Calls Tryd.prog 53 #[.pointer (some ⟨b, 0, none⟩), .int .i64 n] w fun e w' => e = .returned (.tuple #[.int .i64 0, .int .i64 110]) ∧ w' = w := by
  obtain ⟨x, h⟩ := h.rfOpen
  have HN := Lib.hid (show Calls Tryd.prog 80 #[.pointer (some ⟨b, 0, none⟩), .int .i64 n] w fun e w' => e = .returned (.bool false) ∧ w' = w from by
    have h5 := rversion_walk h n
    rw [hn] at h5
    exact h5)
  clear h hn
  go_enter Tryd.func53, Tryd.ntmps53
  go_wp2_with fail
  refine HN.out.mono ?_
  rintro e w' ⟨rfl, rfl⟩
  go_wp2_with fail
  go_ret2
  exact ⟨rfl, rfl⟩

set_option maxHeartbeats 1000000 in
set_option maxRecDepth 100000 in
theorem rdrop_no (h : Has o w0 w (.rstore b A rs)) (n : Int) (hn : A.isN n = false) :
    Calls Tryd.prog 70 #[.pointer (some ⟨b, 0, none⟩), .int .i64 n] w fun e w' => e = .returned (.int .i64 110) ∧ w' = w := by
  obtain ⟨x, h⟩ := h.rfOpen
  have HN := Lib.hid (show Calls Tryd.prog 72 #[.pointer (some ⟨b, 0, none⟩), .int .i64 n] w fun e w' => e = .returned (.bool false) ∧ w' = w from by
    have h5 := rnode_walk h n
    rw [hn] at h5
    exact h5)
  clear h hn
  go_enter Tryd.func70, Tryd.ntmps70
  go_wp2_with fail
  refine HN.out.mono ?_
  rintro e w' ⟨rfl, rfl⟩
  go_wp2_with fail
  go_ret
  exact ⟨rfl, rfl⟩

set_option maxHeartbeats 1000000 in
set_option maxRecDepth 100000 in
theorem rforget_no (h : Has o w0 w (.rstore b A rs)) (n : Int) (hn : A.isT n = false) :
    Calls Tryd.prog 69 #[.pointer (some ⟨b, 0, none⟩), .int .i64 n] w fun e w' => e = .returned (.int .i64 110) ∧ w' = w := by
  obtain ⟨x, h⟩ := h.rfOpen
  have HN := Lib.hid (show Calls Tryd.prog 84 #[.pointer (some ⟨b, 0, none⟩), .int .i64 n] w fun e w' => e = .returned (.bool false) ∧ w' = w from by
    have h5 := rtxn_walk h n
    rw [hn] at h5
    exact h5)
  clear h hn
  go_enter Tryd.func69, Tryd.ntmps69
  go_wp2_with fail
  refine HN.out.mono ?_
  rintro e w' ⟨rfl, rfl⟩
  go_wp2_with fail
  go_ret
  exact ⟨rfl, rfl⟩

set_option maxHeartbeats 1000000 in
set_option maxRecDepth 100000 in
theorem rdrop_none (h : Has o w0 w (.rstore b A rs)) (i : Nat) (v : Int) (hh : A.at_ (.head i) = some v) (hv : A.isV v = false) :
    Calls Tryd.prog 70 #[.pointer (some ⟨b, 0, none⟩), .int .i64 ((i : Int) + 1)] w fun e w' => e = .returned (.int .i64 110) ∧ w' = w := by
  have hltN := at_head hh
  obtain ⟨x, h⟩ := h.rfOpen
  have h8 : A.nN ≤ 9223372036854775807 := Nat.le_trans (RfP.small h).1 (by decide)
  have HN := Lib.hid (show Calls Tryd.prog 72 #[.pointer (some ⟨b, 0, none⟩), .int .i64 ((i : Int) + 1)] w fun e w' => e = .returned (.bool true) ∧ w' = w from by
    have h5 := rnode_walk h ((i : Int) + 1)
    rw [is_node hltN] at h5
    exact h5)
  have HV := Lib.hid (show Calls Tryd.prog 80 #[.pointer (some ⟨b, 0, none⟩), .int .i64 v] w fun e w' => e = .returned (.bool false) ∧ w' = w from by
    have h5 := rversion_walk h v
    rw [hv] at h5
    exact h5)
  obtain ⟨c0, _⟩ := RfP.fields h
  obtain ⟨g, cap, e, hgb, y0, _⟩ := RfP.node h hltN
  rw [e] at c0
  rw [in_head hh] at y0
  have hb : 0 ≤ (i : Int) ∧ (i : Int) < (A.nN : Int) := by omega
  clear h e hh hv
  go_enter Tryd.func70, Tryd.ntmps70
  go_wp2_with fail
  refine HN.out.mono ?_
  rintro e w' ⟨rfl, rfl⟩
  go_wp2_with fail
  refine HV.out.mono ?_
  rintro e w' ⟨rfl, rfl⟩
  go_wp2_with fail
  go_ret
  exact ⟨rfl, rfl⟩
end Go.Proofs.YtlaffmdflleeeaaDoor
