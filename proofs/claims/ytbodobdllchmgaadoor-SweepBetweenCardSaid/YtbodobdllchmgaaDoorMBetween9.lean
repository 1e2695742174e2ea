/- The walks of the reference's chains, and of what it takes away.
The walks of a store's other answers: none, full, wrong words; Val, SetState (printed by mkrest11.py).
The walk of Version, where the value is too long.
The store and the reference's store, step by step: the same answers, and the same plain store behind. -/
import Derived.Test.YtbodobdllchmgaaDoorMBetween8
import Derived.Test.YtbodobdllchmgaaDoorMBetween6
import Derived.Test.YtbodobdllchmgaaDoorMBetween7
import Derived.Test.YtbodobdllchmgaaDoorMBetween3
namespace Go.Proofs.YtbodobdllchmgaaDoor
open Go Go.RowKit
set_option linter.unusedVariables false

variable {o : List Nat} {w0 w : World} {b : Nat} {x : RfIx} {A : ASt} {fr rs : Int}

/-- What is so of every store. -/
structure AOk (A : ASt) : Prop where
  fit : A.used ≤ A.size
  big : A.size ≤ 65536
  word : ∀ l v, A.at_ l = some v → 0 ≤ v ∧ v < 18446744073709551616
  headLe : ∀ i v, A.at_ (.head i) = some v → v ≤ A.nV
  nextLe : ∀ i v, A.at_ (.next i) = some v → v ≤ i
theorem StRep.ok {S : Ar} {C : Cells} (h : StRep S C A) : AOk A := ⟨by rw [← h.count, ← h.size]; exact cnt_le _ _, h.big, h.word, h.headLe, h.nextLe⟩
theorem Has.stOk {b : Nat} (h : Has o w0 w (.store b A)) : AOk A := by
  obtain ⟨x, hr, _⟩ := h.stOpen
  exact hr.ok

theorem RfP.putGone (h : Has o w0 w (RfP b x A fr rs)) {i g cap : Nat} (hi : i < A.nV) (e : x.vv = .slice (some ⟨g, 0, none⟩) A.nV cap) : Has o w0 (w.setCell ⟨g, i * 5 + 4, none⟩ (.bool true)) (RfP b x (A.goneV i) fr rs) := by
  obtain ⟨o1, h1, b1⟩ := RfP.vers h
  obtain ⟨g2, cap2, e2, _, _, hput⟩ := h1.rowsAt (rvF_len _) hi
  rw [e] at e2
  obtain ⟨rfl, rfl⟩ : g = g2 ∧ cap = cap2 := by simpa using e2
  have h2 := hput 4 (.bool true) (by omega)
  have e2 : (fun d => if d = i then (rvF A i).set 4 (.bool true) else rvF A d) = rvF (A.goneV i) := funext fun d => by
    unfold rvF ASt.goneV
    by_cases ed : d = i
    · subst ed; simp
    · simp [ed]
  rw [e2] at h2
  exact b1 _ _ h2 rfl rfl rfl rfl
theorem RfP.putGoneT (h : Has o w0 w (RfP b x A fr rs)) {i g cap : Nat} (hi : i < A.nT) (e : x.tv = .slice (some ⟨g, 0, none⟩) A.nT cap) : Has o w0 (w.setCell ⟨g, i * 2 + 1, none⟩ (.bool true)) (RfP b x (A.goneT i) fr rs) := by
  obtain ⟨o1, h1, b1⟩ := RfP.txns h
  obtain ⟨g2, cap2, e2, _, _, hput⟩ := h1.rowsAt (rtF_len _) hi
  rw [e] at e2
  obtain ⟨rfl, rfl⟩ : g = g2 ∧ cap = cap2 := by simpa using e2
  have h2 := hput 1 (.bool true) (by omega)
  have e2 : (fun d => if d = i then (rtF A i).set 1 (.bool true) else rtF A d) = rtF (A.goneT i) := funext fun d => by
    unfold rtF ASt.goneT
    by_cases ed : d = i
    · subst ed; simp
    · simp [ed]
  rw [e2] at h2
  exact b1 _ _ h2 rfl rfl rfl rfl

theorem goneV_free {i : Nat} (hv : A.ver i = true) : (A.goneV i).free = A.free + 3 := by
  have := goneV_used hv
  unfold ASt.free
  show (A.size : Int) - _ = _
  omega
theorem goneT_free {i : Nat} (hv : A.txn i = true) : (A.goneT i).free = A.free + 1 := by
  have := goneT_used hv
  unfold ASt.free
  show (A.size : Int) - _ = _
  omega

set_option maxHeartbeats 4000000 in
set_option maxRecDepth 100000 in
theorem rchain_walk (h : Has o w0 w (.rstore b A rs)) (hok : AOk A) (n : Int) (hn : n ≤ A.nV) (hV : A.nV ≤ 1000000000) :
    Calls Tryd.prog 42 #[.pointer (some ⟨b, 0, none⟩), .int .i64 n] w fun e w' => ∃ lv, e = .returned lv ∧ Has o w0 w' ((Part.rstore b A rs).sep (.nums lv (chainF A n.toNat n))) := by
  obtain ⟨x, h⟩ := h.rfOpen
  have HV0 := Lib.hid (rversion_walk h n)
  have HX := Lib.hid (h.beside (Has.nilNums _))
  have HO := Lib.hid hok
  obtain ⟨i0, hi0, hz0, hz1, hz2⟩ := info_parts info_num
  clear h hok
  go_enter Tryd.func42, Tryd.ntmps42
  go_wp2_with fail
  refine HV0.out.mono ?_
  rintro e w' ⟨rfl, rfl⟩
  go_wp2_with fail
  go_loopg [1, 5, 6] (n.toNat + 1) (fun k nv lv okv wr => ∃ (m : Int) (f : Nat) (cs : List Nat), nv = .int .i64 m ∧ m ≤ f ∧ f ≤ n.toNat ∧ k = f + 1 ∧ okv = .bool (A.isV m) ∧ chainF A n.toNat n = cs ++ chainF A f m ∧ cs.length + f ≤ n.toNat ∧ Has o w0 wr ((RfP b x A A.free rs).sep (.nums lv cs)))
  case atStart => exact ⟨n, n.toNat, [], rfl, by omega, Nat.le_refl _, rfl, rfl, rfl, by simp, HX.out⟩
  case round =>
    clear HX HV0
    obtain ⟨m, f, cs, rfl, hmf, hfn, hk, rfl, hcs, hlen, hX⟩ := hrel
    have HKK := Lib.hid hk
    by_cases hc : A.isV m = true
    · obtain ⟨i, rfl, hver⟩ := isV_at hc
      obtain ⟨f', rfl⟩ : ∃ f', f = f' + 1 := ⟨f - 1, by omega⟩
      have hlt := ver_lt hver
      have hl : A.at_ (.next i) = some (A.V i).next := by show (if A.ver i = true then some (A.V i).next else none) = _; rw [if_pos hver]
      have hnx := HO.out.nextLe i _ hl
      have hwd := HO.out.word _ _ hl
      rw [hc]
      rw [chainF_go hver] at hcs
      have HCS := Lib.hid hcs
      obtain ⟨o3, h3, _⟩ := hX.right
      obtain ⟨np, nc, hnv, hnl, hrow, _⟩ := nums_open h3
      have HROW := Lib.hid hrow
      have HX := Lib.hid hX
      have hl9 : cs.length ≤ 1000000000 := by omega
      clear hk hcs hX h3 hnv hrow hl hnl hc
      go_wp2_with (at_builtin; refine wpList_append_new rfl (.tmp 11) (.tmp 13) 22 rfl 3 i0 (.int .i64 0) 1 8 Tryd.underlying22 hi0 hz0 hz1 hz2 rfl (by decide) _ _ _ rfl (HROW.out.alloc _) ⟨_, 0, none⟩ 1 1 [.int .i64 ((i : Int) + 1)] rfl rfl (cell_one _ _ _ _ (by simp)) (by simp [Value.oneCell']) (by simp only [maxLen]; omega) (by omega) ?_)
      intro v' w5 happ
      have HX5 := Lib.hid (nums_more1 (c := i + 1) _ HX.out happ)
      obtain ⟨o4, h4, _⟩ := HX5.out.left
      obtain ⟨_, c1, _⟩ := RfP.fields h4
      obtain ⟨g, cap, e, _, _, _, _, y3, _⟩ := RfP.ver h4 hlt
      rw [e] at c1
      have HV2 := Lib.hid (rversion_walk h4 (A.V i).next)
      have hb : 0 ≤ (i : Int) ∧ (i : Int) < (A.nV : Int) := by omega
      clear happ HROW HX h4 e
      go_wp2_with fail
      refine HV2.out.mono ?_
      rintro e w7 ⟨rfl, rfl⟩
      go_wp2_with fail
      go_roundg (f' + 1)
      case measure => rw [HKK.out]; omega
      case rel =>
        refine ⟨(A.V i).next, f', cs ++ [i + 1], rfl, by omega, by omega, rfl, rfl, ?_, ?_, HX5.out⟩
        · rw [HCS.out]; simp
        · rw [List.length_append]; simp; omega
    · have hc' : A.isV m = false := by simpa using hc
      rw [hc']
      have hstop : ¬ (1 ≤ m ∧ A.ver (m - 1).toNat = true) := by
        rintro ⟨h1, h2⟩
        refine hc ?_
        unfold ASt.isV; rw [h2]; simp; omega
      rw [chainF_stop hstop, List.append_nil] at hcs
      have HCS := Lib.hid hcs
      have HX := Lib.hid hX
      clear hk hcs hX hc hc' hstop
      go_wp2_with fail
      go_ret
      refine ⟨_, rfl, ?_⟩
      rw [HCS.out]
      obtain ⟨o9, h9, _, _, b9⟩ := HX.out.left
      exact b9 _ _ h9.rfShut

set_option maxHeartbeats 2000000 in
set_option maxRecDepth 100000 in
theorem rChain_at (h : Has o w0 w (.rstore b A rs)) (hok : AOk A) (i : Nat) (v : Int) (hl : A.at_ (.head i) = some v) (hV : A.nV ≤ 1000000000) :
    Calls Tryd.prog 18 #[.pointer (some ⟨b, 0, none⟩), .int .i64 ((i : Int) + 1)] w fun e w' => ∃ lv, e = .returned lv ∧ Has o w0 w' ((Part.rstore b A rs).sep (.nums lv (chainF A v.toNat v))) := by
  have HC := Lib.hid (rchain_walk h hok v (hok.headLe i v hl) hV)
  obtain ⟨x, h⟩ := h.rfOpen
  have hlt := at_head hl
  have h9 : A.nN ≤ 9223372036854775807 := Nat.le_trans (RfP.small h).1 (by decide)
  obtain ⟨c0, c1, c2, c3, c4, zf⟩ := RfP.fields h
  obtain ⟨g, cap, e, hgb, y0, y1, yf, _, _⟩ := RfP.node h hlt
  rw [e] at c0
  rw [in_head hl] at y0
  have HN := Lib.hid (show Calls Tryd.prog 41 #[.pointer (some ⟨b, 0, none⟩), .int .i64 ((i : Int) + 1)] w fun e w' => e = .returned (.bool true) ∧ w' = w from by
    have h5 := rnode_walk h ((i : Int) + 1)
    rw [is_node hlt] at h5
    exact h5)
  have hb : 0 ≤ (i : Int) ∧ (i : Int) < (A.nN : Int) := by omega
  clear h e hl zf yf hok
  go_enter Tryd.func18, Tryd.ntmps18
  go_wp2_with fail
  refine HN.out.mono ?_
  rintro e w' ⟨rfl, rfl⟩
  go_wp2_with fail
  refine HC.out.mono ?_
  rintro e w' ⟨lv, rfl, hX⟩
  have HX := Lib.hid hX
  clear hX
  go_wp2_with fail
  go_ret
  exact ⟨_, rfl, HX.out⟩

set_option maxHeartbeats 1000000 in
set_option maxRecDepth 100000 in
theorem rChain_no (h : Has o w0 w (.rstore b A rs)) (n : Int) (hn : A.isN n = false) :
    Calls Tryd.prog 18 #[.pointer (some ⟨b, 0, none⟩), .int .i64 n] w fun e w' => e = .returned (.slice none 0 0) ∧ w' = w := by
  obtain ⟨x, h⟩ := h.rfOpen
  have HN := Lib.hid (show Calls Tryd.prog 41 #[.pointer (some ⟨b, 0, none⟩), .int .i64 n] w fun e w' => e = .returned (.bool false) ∧ w' = w from by
    have h5 := rnode_walk h n
    rw [hn] at h5
    exact h5)
  clear h hn
  go_enter Tryd.func18, Tryd.ntmps18
  go_wp2_with fail
  refine HN.out.mono ?_
  rintro e w' ⟨rfl, rfl⟩
  go_wp2_with fail
  go_ret
  exact ⟨rfl, rfl⟩

set_option maxHeartbeats 2000000 in
set_option maxRecDepth 100000 in
theorem raway_walk (h : Has o w0 w (.rstore b A rs)) (i : Nat) (hver : A.ver i = true) (hs9 : A.size ≤ 65536) (hfit : A.used ≤ A.size) :
    Calls Tryd.prog 62 #[.pointer (some ⟨b, 0, none⟩), .int .i64 ((i : Int) + 1)] w fun e w' => e = .returned (.tuple #[]) ∧ Has o w0 w' (.rstore b (A.goneV i) rs) := by
  obtain ⟨x, h⟩ := h.rfOpen
  have hlt := ver_lt hver
  have h9 : A.nV ≤ 9223372036854775807 := Nat.le_trans (RfP.small h).2.1 (by decide)
  obtain ⟨c0, c1, c2, c3, c4, zf⟩ := RfP.fields h
  have z3 := zf 3 (by omega)
  obtain ⟨g, cap, e, hgb, y0, y1, y2, y3, y4, yf, _⟩ := RfP.ver h hlt
  have z4 := yf (i * 5 + 4)
  have hf9 : 0 ≤ A.free ∧ A.free ≤ 65536 := by unfold ASt.free; omega
  have HS := Lib.hid ((RfP.putFree (RfP.putGone h hlt e) (A.free + 3)).rfShutAs (goneV_free hver).symm)
  rw [e] at c1
  have hb : 0 ≤ (i : Int) ∧ (i : Int) < (A.nV : Int) := by omega
  clear h e zf yf hver
  go_enter Tryd.func62, Tryd.ntmps62
  generalize A.free = fr at *
  go_wp2_with fail
  go_end0
  exact ⟨rfl, HS.out⟩

set_option maxHeartbeats 4000000 in
set_option maxRecDepth 100000 in
theorem rcut_at (h : Has o w0 w (.rstore b A rs)) (hok : AOk A) (i : Nat) (nx : Int) (hl : A.at_ (.next i) = some nx) (hV : A.nV ≤ 1000000000)
    (hch : ∀ v ∈ chainF A nx.toNat nx, 1 ≤ v ∧ ((A.set (.next i) 0).ver (v - 1) = true)) (hpw : (chainF A nx.toNat nx).Pairwise (· > ·)) (hlen : (chainF A nx.toNat nx).length ≤ 1000000000) :
    Calls Tryd.prog 43 #[.pointer (some ⟨b, 0, none⟩), .int .i64 ((i : Int) + 1)] w fun e w' => e = .returned (.tuple #[.int .i64 ((chainF A nx.toNat nx).length : Nat), .int .i64 0]) ∧ Has o w0 w' (.rstore b ((A.set (.next i) 0).goneAll (chainF A nx.toNat nx)) rs) := by
  have hver := at_next hl
  have hlt := ver_lt hver
  have HC := Lib.hid (rchain_walk h hok nx (by have := hok.nextLe i nx hl; omega) hV)
  obtain ⟨x, h⟩ := h.rfOpen
  have h9 : A.nV ≤ 9223372036854775807 := Nat.le_trans (RfP.small h).2.1 (by decide)
  obtain ⟨c0, c1, c2, c3, c4, zf⟩ := RfP.fields h
  obtain ⟨g, cap, e, hgb, y0, y1, y2, y3, y4, yf, _⟩ := RfP.ver h hlt
  rw [e] at c1
  rw [in_next hl] at y3
  have HN := Lib.hid (show Calls Tryd.prog 60 #[.pointer (some ⟨b, 0, none⟩), .int .i64 ((i : Int) + 1)] w fun e w' => e = .returned (.bool true) ∧ w' = w from by
    have h5 := rversion_walk h ((i : Int) + 1)
    rw [is_ver hver] at h5
    exact h5)
  have hb : 0 ≤ (i : Int) ∧ (i : Int) < (A.nV : Int) := by omega
  have hus : (A.set (.next i) 0).used ≤ (A.set (.next i) 0).size := by rw [ASt.used_set, ASt.size_set]; exact hok.fit
  have hsz : (A.set (.next i) 0).size ≤ 65536 := by rw [ASt.size_set]; exact hok.big
  generalize chainF A nx.toNat nx = L at *
  have HUS := Lib.hid hus
  have HSZ := Lib.hid hsz
  have HCH := Lib.hid hch
  have HPW := Lib.hid hpw
  clear h e hl zf yf hok hver hus hsz hch hpw
  go_enter Tryd.func43, Tryd.ntmps43
  go_wp2_with fail
  refine HN.out.mono ?_
  rintro e w' ⟨rfl, rfl⟩
  go_wp2_with fail
  refine HC.out.mono ?_
  rintro e w2 ⟨lv, rfl, hX⟩
  obtain ⟨o1, h1, _, _, b1⟩ := hX.left
  obtain ⟨x2, h1⟩ := h1.rfOpen
  obtain ⟨_, d1, _⟩ := RfP.fields h1
  obtain ⟨g2, cap2, e2, hgb2, _, _, _, x3, _, xf, _⟩ := RfP.ver h1 hlt
  have z5 := xf (i * 5 + 3)
  have hX2 := b1 _ _ ((RfP.putNext h1 hlt e2 0).rfShutAs (free_set _ _ _).symm)
  rw [e2] at d1
  obtain ⟨o3, h3, _⟩ := hX.right
  obtain ⟨np, nc, hlv, _, _, _⟩ := nums_open h3
  have HX2 := Lib.hid hX2
  subst hlv
  clear hX h1 e2 xf b1 hX2 h3 HC
  go_wp2_with fail
  go_loopg [8] L.length (fun k iv wr => ∃ j : Nat, j ≤ L.length ∧ k = L.length - j ∧ iv = .int .i64 j ∧ ((A.set (.next i) 0).goneAll (L.take j)).used + 3 * j = (A.set (.next i) 0).used ∧ Has o w0 wr ((Part.rstore b ((A.set (.next i) 0).goneAll (L.take j)) rs).sep (.nums (.slice np L.length nc) L)))
  case atStart => exact ⟨0, Nat.zero_le _, rfl, rfl, rfl, HX2.out⟩
  case round =>
    clear HX2
    obtain ⟨j, hj, hk, rfl, hu, hX⟩ := hrel
    have HKK := Lib.hid hk
    have HU := Lib.hid hu
    by_cases hjl : j < L.length
    · have q1 : decide ((j : Int) < (L.length : Int)) = true := by simp; omega
      have q1' : decide (j < L.length) = true := by simp; omega
      have hbj : 0 ≤ (j : Int) ∧ (j : Int) < (L.length : Int) := by omega
      obtain ⟨o3, h3, _⟩ := hX.right
      obtain ⟨np', nc', he, _, _, hc⟩ := nums_open h3
      obtain ⟨rfl, rfl⟩ : np = np' ∧ nc = nc' := by simpa using he
      obtain ⟨gn, rfl, hcc⟩ := hc (by omega)
      have cj := hcc j hjl
      have hsn : L.take (j + 1) = L.take j ++ [L[j]] := by rw [List.take_add_one, List.getElem?_eq_getElem hjl]; rfl
      obtain ⟨hv1, hv2⟩ := HCH.out L[j] (List.getElem_mem hjl)
      have hnot : L[j] ∉ L.take j := by
        intro hm
        obtain ⟨k2, hk2, e⟩ := List.getElem_of_mem hm
        rw [List.getElem_take] at e
        rw [List.length_take] at hk2
        have := List.pairwise_iff_getElem.1 HPW.out k2 j (by omega) hjl (by omega)
        omega
      have hlive : ((A.set (.next i) 0).goneAll (L.take j)).ver (L[j] - 1) = true := by
        rw [goneAll_ver _ _ _ (fun v hv => (HCH.out v (List.mem_of_mem_take hv)).1), hv2]
        rw [show L[j] - 1 + 1 = L[j] by omega]
        simpa using hnot
      have hun := goneV_used hlive
      obtain ⟨o4, h4, _, _, b4⟩ := hX.left
      obtain ⟨p, hp⟩ : ∃ p, L[j] = p + 1 := ⟨L[j] - 1, by omega⟩
      have hgs := goneAll_same (A.set (.next i) 0) (L.take j)
      have haw := raway_walk h4 (L[j] - 1) hlive (by rw [hgs.1]; exact HSZ.out) (by rw [hgs.1]; have := HUS.out; omega)
      rw [show (((L[j] - 1 : Nat)) : Int) + 1 = (L[j] : Int) by omega, ← goneAll_snoc, ← hsn] at haw
      rw [← goneAll_snoc, ← hsn] at hun
      have HAW := Lib.hid haw
      have HB4 := Lib.hid b4
      have HUN := Lib.hid hun
      clear hk hu hX h3 he hc hcc hsn hv1 hv2 hnot hlive hun h4 b4 hp hgs haw
      generalize L[j] = vj at *
      go_wp2_with fail
      refine HAW.out.mono ?_
      rintro e w4 ⟨rfl, hX4⟩
      have HX4 := Lib.hid (HB4.out _ _ hX4)
      clear hX4
      go_wp2_with fail
      go_roundg (L.length - (j + 1))
      case measure => rw [HKK.out]; omega
      case rel => exact ⟨j + 1, by omega, rfl, by go_num, by have h1 := HU.out; have h2 := HUN.out; omega, HX4.out⟩
    · have q1 : decide ((j : Int) < (L.length : Int)) = false := by simp; omega
      have q1' : decide (j < L.length) = false := by simp; omega
      obtain rfl : j = L.length := by omega
      rw [List.take_length] at hX
      have HX := Lib.hid hX
      clear hk hX hu HU
      go_wp2_with fail
      go_ret2
      exact ⟨rfl, HX.out.fst⟩

set_option maxHeartbeats 4000000 in
set_option maxRecDepth 100000 in
theorem rdrop_at (h : Has o w0 w (.rstore b A rs)) (hok : AOk A) (i j : Nat) (nx : Int) (hh : A.at_ (.head i) = some ((j : Int) + 1)) (hl : A.at_ (.next j) = some nx) :
    Calls Tryd.prog 44 #[.pointer (some ⟨b, 0, none⟩), .int .i64 ((i : Int) + 1)] w fun e w' => e = .returned (.int .i64 0) ∧ Has o w0 w' (.rstore b ((A.set (.head i) nx).goneV j) rs) := by
  have hver := at_next hl
  have hltV := ver_lt hver
  have hltN := at_head hh
  obtain ⟨x, h⟩ := h.rfOpen
  have h9 : A.nV ≤ 9223372036854775807 := Nat.le_trans (RfP.small h).2.1 (by decide)
  have h8 : A.nN ≤ 9223372036854775807 := Nat.le_trans (RfP.small h).1 (by decide)
  have HN := Lib.hid (show Calls Tryd.prog 41 #[.pointer (some ⟨b, 0, none⟩), .int .i64 ((i : Int) + 1)] w fun e w' => e = .returned (.bool true) ∧ w' = w from by
    have h5 := rnode_walk h ((i : Int) + 1)
    rw [is_node hltN] at h5
    exact h5)
  have HV := Lib.hid (show Calls Tryd.prog 60 #[.pointer (some ⟨b, 0, none⟩), .int .i64 ((j : Int) + 1)] w fun e w' => e = .returned (.bool true) ∧ w' = w from by
    have h5 := rversion_walk h ((j : Int) + 1)
    rw [is_ver hver] at h5
    exact h5)
  obtain ⟨c0, c1, _⟩ := RfP.fields h
  obtain ⟨g, cap, e, hgb, y0, _, yf, _, _⟩ := RfP.node h hltN
  obtain ⟨g1, cap1, e1, hgb1, _, _, _, x3, _, _, _⟩ := RfP.ver h hltV
  have z0 := yf (i * 2)
  have hset := (RfP.putHead h hltN e nx).rfShutAs (free_set _ _ _).symm
  have HAW := Lib.hid (raway_walk (hset.quiet ((Kept.refl [] _).drew)) j (by rw [ASt.ver_set]; exact hver) (by rw [ASt.size_set]; exact hok.big) (by rw [ASt.used_set, ASt.size_set]; exact hok.fit))
  rw [e] at c0
  rw [e1] at c1
  rw [in_head hh] at y0
  rw [in_next hl] at x3
  have HX := Lib.hid h
  have hb : 0 ≤ (i : Int) ∧ (i : Int) < (A.nN : Int) := by omega
  have hb1 : 0 ≤ (j : Int) ∧ (j : Int) < (A.nV : Int) := by omega
  clear h e e1 hh hl yf hok hver hset
  go_enter Tryd.func44, Tryd.ntmps44
  go_wp2_with fail
  refine HN.out.mono ?_
  rintro e w' ⟨rfl, rfl⟩
  go_wp2_with fail
  refine HV.out.mono ?_
  rintro e w' ⟨rfl, rfl⟩
  have hidx : 0 ≤ IntKind.i64.wrap ↑i ∧ IntKind.i64.wrap ↑i < ↑A.nN := by unfold IntKind.wrap; simp [IntKind.bits, IntKind.signed]; omega
  have hidx1 : 0 ≤ IntKind.i64.wrap ↑j ∧ IntKind.i64.wrap ↑j < ↑A.nV := by unfold IntKind.wrap; simp [IntKind.bits, IntKind.signed]; omega
  go_wp2_with fail
  go_region
  go_wp2_with fail
  refine HAW.out.mono ?_
  rintro e w4 ⟨rfl, hX4⟩
  have HX4 := Lib.hid hX4
  clear hX4
  go_wp2_with fail
  go_ret
  exact ⟨rfl, HX4.out⟩

set_option maxHeartbeats 1000000 in
set_option maxRecDepth 100000 in
theorem rcut_no (h : Has o w0 w (.rstore b A rs)) (n : Int) (hn : A.isV n = false) :
    Calls Tryd.prog 43 #[.pointer (some ⟨b, 0, none⟩), .int .i64 n] w fun e w' => e = .returned (.tuple #[.int .i64 0, .int .i64 110]) ∧ w' = w := by
  obtain ⟨x, h⟩ := h.rfOpen
  have HN := Lib.hid (show Calls Tryd.prog 60 #[.pointer (some ⟨b, 0, none⟩), .int .i64 n] w fun e w' => e = .returned (.bool false) ∧ w' = w from by
    have h5 := rversion_walk h n
    rw [hn] at h5
    exact h5)
  clear h hn
  go_enter Tryd.func43, Tryd.ntmps43
  go_wp2_with fail
  refine HN.out.mono ?_
  rintro e w' ⟨rfl, rfl⟩
  go_wp2_with fail
  go_ret2
  exact ⟨rfl, rfl⟩

set_option maxHeartbeats 1000000 in
set_option maxRecDepth 100000 in
theorem rdrop_no (h : Has o w0 w (.rstore b A rs)) (n : Int) (hn : A.isN n = false) :
    Calls Tryd.prog 44 #[.pointer (some ⟨b, 0, none⟩), .int .i64 n] w fun e w' => e = .returned (.int .i64 110) ∧ w' = w := by
  obtain ⟨x, h⟩ := h.rfOpen
  have HN := Lib.hid (show Calls Tryd.prog 41 #[.pointer (some ⟨b, 0, none⟩), .int .i64 n] w fun e w' => e = .returned (.bool false) ∧ w' = w from by
    have h5 := rnode_walk h n
    rw [hn] at h5
    exact h5)
  clear h hn
  go_enter Tryd.func44, Tryd.ntmps44
  go_wp2_with fail
  refine HN.out.mono ?_
  rintro e w' ⟨rfl, rfl⟩
  go_wp2_with fail
  go_ret
  exact ⟨rfl, rfl⟩

set_option maxHeartbeats 1000000 in
set_option maxRecDepth 100000 in
theorem rdrop_none (h : Has o w0 w (.rstore b A rs)) (i : Nat) (v : Int) (hh : A.at_ (.head i) = some v) (hv : A.isV v = false) :
    Calls Tryd.prog 44 #[.pointer (some ⟨b, 0, none⟩), .int .i64 ((i : Int) + 1)] w fun e w' => e = .returned (.int .i64 110) ∧ w' = w := by
  have hltN := at_head hh
  obtain ⟨x, h⟩ := h.rfOpen
  have h8 : A.nN ≤ 9223372036854775807 := Nat.le_trans (RfP.small h).1 (by decide)
  have HN := Lib.hid (show Calls Tryd.prog 41 #[.pointer (some ⟨b, 0, none⟩), .int .i64 ((i : Int) + 1)] w fun e w' => e = .returned (.bool true) ∧ w' = w from by
    have h5 := rnode_walk h ((i : Int) + 1)
    rw [is_node hltN] at h5
    exact h5)
  have HV := Lib.hid (show Calls Tryd.prog 60 #[.pointer (some ⟨b, 0, none⟩), .int .i64 v] w fun e w' => e = .returned (.bool false) ∧ w' = w from by
    have h5 := rversion_walk h v
    rw [hv] at h5
    exact h5)
  obtain ⟨c0, _⟩ := RfP.fields h
  obtain ⟨g, cap, e, hgb, y0, _⟩ := RfP.node h hltN
  rw [e] at c0
  rw [in_head hh] at y0
  have hb : 0 ≤ (i : Int) ∧ (i : Int) < (A.nN : Int) := by omega
  clear h e hh hv
  go_enter Tryd.func44, Tryd.ntmps44
  go_wp2_with fail
  refine HN.out.mono ?_
  rintro e w' ⟨rfl, rfl⟩
  go_wp2_with fail
  refine HV.out.mono ?_
  rintro e w' ⟨rfl, rfl⟩
  go_wp2_with fail
  go_ret
  exact ⟨rfl, rfl⟩
end Go.Proofs.YtbodobdllchmgaaDoor
namespace Go.Proofs.YtbodobdllchmgaaDoor
open Go Go.RowKit
set_option linter.unusedVariables false

variable {o : List Nat} {w0 w : World} {b : Nat} {x : StIx} {A : ASt}

theorem StRep.same {S S' : Ar} {C : Cells} {A : ASt} (h : StRep S C A) (h1 : S'.size = S.size) (h2 : S'.steps = S.steps) (h3 : ∀ d, S'.get d = S.get d) : StRep S' C A := by
  have e : S'.get = S.get := funext h3
  exact ⟨h1.trans h.size, h.big, h2.trans h.steps, fun l v hl => by rw [e]; exact h.has l v hl, h.inj, by rw [e, h1]; exact h.count, h.word, h.headLe, h.nextLe⟩

set_option maxHeartbeats 4000000 in
set_option maxRecDepth 100000 in
theorem push_first_not (h : Has o w0 w (.store b A)) (i j : Nat) (u : Int) (hl : A.at_ (.head i) = some (u)) (hj : A.ver j = true) (hne : u ≠ 0) (hV : A.nV ≤ 1000000000) :
    Calls Tryd.prog 27 #[.pointer (some ⟨b, 0, none⟩), .int .i64 ((i : Int) + 1), .int .i64 (0), .int .i64 ((j : Int) + 1)] w fun e w' => e = .returned (.tuple #[.bool false, .int .i64 0]) ∧ Has o w0 w' (.store b (A.step)) := by
  obtain ⟨x, hr, h⟩ := h.stOpen
  have hlt := at_head hl
  have hjl := ver_lt hj
  obtain ⟨g, cap, hvv⟩ := StP.nodeSlice h hlt
  obtain ⟨c0, _, _, _⟩ := StP.fields h
  obtain ⟨c1, _⟩ := StP.nodeCells h hlt hvv
  obtain ⟨gj, capj, hvj⟩ := StP.verSlice h hjl
  have HN := Lib.hid (node_at h i hlt hvv)
  have HJ := Lib.hid (version_at h j hj hvj)
  have HL := Lib.hid (fun (w' : World) (hw : Has o w0 w' (StP b x A)) => stp_cas_not hw hr (.head i) u (0) ((j : Int) + 1) hl hne)
  have HL0 := Lib.hid hl
  have HX := Lib.hid h
  have HR := Lib.hid hr
  have HVV := Lib.hid hvv
  have e2 : IntKind.u64.wrap ((j : Int) + 1) = (j : Int) + 1 := by unfold IntKind.wrap; simp [IntKind.bits, IntKind.signed]; omega
  clear h hr hl hvv hvj hj hne
  go_enter Tryd.func27, Tryd.ntmps27
  go_wp2_with fail
  refine HN.out.mono ?_
  rintro e w' ⟨rfl, rfl⟩
  go_wp2_with fail
  refine HJ.out.mono ?_
  rintro e w' ⟨rfl, rfl⟩
  go_wp2_with fail
  go_region_held3 (fun w' => w'.cell? ⟨b, 0, none⟩ = some (.pointer (some ⟨x.ab, 0, none⟩)) ∧ w'.cell? ⟨g, i * 2, none⟩ = some (.int .i64 ((x.C.n i).1)))
    (first | exact ⟨c0, c1⟩ | exact ⟨d0, d1⟩)
    (first | (go_at_call 55
              refine (HL.out _ (HX.out.quiet ((Kept.refl _ _).drew))).mono ?_
              rintro e w4 ⟨rfl, hX4⟩
              obtain ⟨d0, _, _, _⟩ := StP.fields hX4
              obtain ⟨d1, _⟩ := StP.nodeCells hX4 hlt HVV.out
              have HX4 := Lib.hid hX4
              clear hX4))
  go_wp2_with fail
  go_ret2
  exact ⟨rfl, HX4.out.stShut HR.out.step⟩

set_option maxHeartbeats 4000000 in
set_option maxRecDepth 100000 in
theorem push_over_not (h : Has o w0 w (.store b A)) (i j : Nat) (k : Nat) (hk : A.ver k = true) (u : Int) (hl : A.at_ (.head i) = some (u)) (hj : A.ver j = true) (hne : u ≠ (k : Int) + 1) (hV : A.nV ≤ 1000000000) :
    Calls Tryd.prog 27 #[.pointer (some ⟨b, 0, none⟩), .int .i64 ((i : Int) + 1), .int .i64 ((k : Int) + 1), .int .i64 ((j : Int) + 1)] w fun e w' => e = .returned (.tuple #[.bool false, .int .i64 0]) ∧ Has o w0 w' (.store b (A.step)) := by
  obtain ⟨x, hr, h⟩ := h.stOpen
  have hlt := at_head hl
  have hjl := ver_lt hj
  obtain ⟨g, cap, hvv⟩ := StP.nodeSlice h hlt
  obtain ⟨c0, _, _, _⟩ := StP.fields h
  obtain ⟨c1, _⟩ := StP.nodeCells h hlt hvv
  obtain ⟨gj, capj, hvj⟩ := StP.verSlice h hjl
  have HN := Lib.hid (node_at h i hlt hvv)
  have HJ := Lib.hid (version_at h j hj hvj)
  obtain ⟨gk, capk, hvk⟩ := StP.verSlice h (ver_lt hk)
  have HKV := Lib.hid (version_at h k hk hvk)
  have hkl := ver_lt hk
  have e1 : IntKind.u64.wrap ((k : Int) + 1) = (k : Int) + 1 := by unfold IntKind.wrap; simp [IntKind.bits, IntKind.signed]; omega
  have f1 : decide ((k : Int) + 1 = 0) = false := by simp; omega
  have f2 : ((k : Int) + 1 == 0) = false := by simp; omega
  clear hvk
  have HL := Lib.hid (fun (w' : World) (hw : Has o w0 w' (StP b x A)) => stp_cas_not hw hr (.head i) u ((k : Int) + 1) ((j : Int) + 1) hl hne)
  have HL0 := Lib.hid hl
  have HX := Lib.hid h
  have HR := Lib.hid hr
  have HVV := Lib.hid hvv
  have e2 : IntKind.u64.wrap ((j : Int) + 1) = (j : Int) + 1 := by unfold IntKind.wrap; simp [IntKind.bits, IntKind.signed]; omega
  clear h hr hl hvv hvj hj hne
  go_enter Tryd.func27, Tryd.ntmps27
  go_wp2_with fail
  refine HN.out.mono ?_
  rintro e w' ⟨rfl, rfl⟩
  go_wp2_with fail
  refine HKV.out.mono ?_
  rintro e w' ⟨rfl, rfl⟩
  go_wp2_with fail
  refine HJ.out.mono ?_
  rintro e w' ⟨rfl, rfl⟩
  go_wp2_with fail
  go_region_held3 (fun w' => w'.cell? ⟨b, 0, none⟩ = some (.pointer (some ⟨x.ab, 0, none⟩)) ∧ w'.cell? ⟨g, i * 2, none⟩ = some (.int .i64 ((x.C.n i).1)))
    (first | exact ⟨c0, c1⟩ | exact ⟨d0, d1⟩)
    (first | (go_at_call 55
              refine (HL.out _ (HX.out.quiet ((Kept.refl _ _).drew))).mono ?_
              rintro e w4 ⟨rfl, hX4⟩
              obtain ⟨d0, _, _, _⟩ := StP.fields hX4
              obtain ⟨d1, _⟩ := StP.nodeCells hX4 hlt HVV.out
              have HX4 := Lib.hid hX4
              clear hX4))
  go_wp2_with fail
  go_ret2
  exact ⟨rfl, HX4.out.stShut HR.out.step⟩

set_option maxHeartbeats 2000000 in
set_option maxRecDepth 100000 in
theorem push_none (h : Has o w0 w (.store b A)) (n p q : Int) (hn : A.isN n = false ∨ (p ≠ 0 ∧ A.isV p = false) ∨ A.isV q = false) :
    Calls Tryd.prog 27 #[.pointer (some ⟨b, 0, none⟩), .int .i64 n, .int .i64 p, .int .i64 q] w fun e w' => e = .returned (.tuple #[.bool false, .int .i64 110]) ∧ w' = w := by
  obtain ⟨x, hr, h⟩ := h.stOpen
  have HNN := Lib.hid (none_walk w b)
  by_cases hN : A.isN n = true
  · obtain ⟨i, rfl, hi⟩ := isN_at hN
    obtain ⟨g, cap, hvv⟩ := StP.nodeSlice h hi
    have HN := Lib.hid (node_at h i hi hvv)
    by_cases hp0 : p = 0
    · have hq : A.isV q = false := by
        rcases hn with h1 | ⟨h1, _⟩ | h1
        · rw [hN] at h1; cases h1
        · exact absurd hp0 h1
        · exact h1
      have HQ := Lib.hid (version_no h q (isV_no hq))
      subst hp0
      clear h hr hvv hq hn hN
      go_enter Tryd.func27, Tryd.ntmps27
      go_wp2_with fail
      refine HN.out.mono ?_
      rintro e w' ⟨rfl, rfl⟩
      go_wp2_with fail
      refine HQ.out.mono ?_
      rintro e w' ⟨rfl, rfl⟩
      go_wp2_with fail
      refine HNN.out.mono ?_
      rintro e w' ⟨rfl, rfl⟩
      go_wp2_with fail
      go_ret2
      exact ⟨rfl, rfl⟩
    · have f1 : decide (p = 0) = false := by simpa using hp0
      have f2 : (p == 0) = false := by simpa using hp0
      have f3 : (p != 0) = true := by simpa using hp0
      by_cases hP : A.isV p = true
      · obtain ⟨k, rfl, hk⟩ := isV_at hP
        obtain ⟨g2, cap2, hv2⟩ := StP.verSlice h (ver_lt hk)
        have HP := Lib.hid (version_at h k hk hv2)
        have hq : A.isV q = false := by
          rcases hn with h1 | ⟨_, h1⟩ | h1
          · rw [hN] at h1; cases h1
          · rw [hP] at h1; cases h1
          · exact h1
        have HQ := Lib.hid (version_no h q (isV_no hq))
        clear h hr hvv hv2 hq hn hN hP
        go_enter Tryd.func27, Tryd.ntmps27
        go_wp2_with fail
        refine HN.out.mono ?_
        rintro e w' ⟨rfl, rfl⟩
        go_wp2_with fail
        refine HP.out.mono ?_
        rintro e w' ⟨rfl, rfl⟩
        go_wp2_with fail
        refine HQ.out.mono ?_
        rintro e w' ⟨rfl, rfl⟩
        go_wp2_with fail
        refine HNN.out.mono ?_
        rintro e w' ⟨rfl, rfl⟩
        go_wp2_with fail
        go_ret2
        exact ⟨rfl, rfl⟩
      · have hP' : A.isV p = false := by simpa using hP
        have HP := Lib.hid (version_no h p (isV_no hP'))
        clear h hr hvv hn hN hP hP'
        go_enter Tryd.func27, Tryd.ntmps27
        go_wp2_with fail
        refine HN.out.mono ?_
        rintro e w' ⟨rfl, rfl⟩
        go_wp2_with fail
        refine HP.out.mono ?_
        rintro e w' ⟨rfl, rfl⟩
        go_wp2_with fail
        refine HNN.out.mono ?_
        rintro e w' ⟨rfl, rfl⟩
        go_wp2_with fail
        go_ret2
        exact ⟨rfl, rfl⟩
  · have hN' : A.isN n = false := by simpa using hN
    have HN := Lib.hid (node_no h n (isN_no hN'))
    clear h hr hn hN hN'
    go_enter Tryd.func27, Tryd.ntmps27
    go_wp2_with fail
    refine HN.out.mono ?_
    rintro e w' ⟨rfl, rfl⟩
    go_wp2_with fail
    refine HNN.out.mono ?_
    rintro e w' ⟨rfl, rfl⟩
    go_wp2_with fail
    go_ret2
    exact ⟨rfl, rfl⟩

set_option maxHeartbeats 2000000 in
set_option maxRecDepth 100000 in
theorem cut_none (h : Has o w0 w (.store b A)) (n : Int) (hn : A.isV n = false) :
    Calls Tryd.prog 85 #[.pointer (some ⟨b, 0, none⟩), .int .i64 n] w fun e w' => e = .returned (.tuple #[.int .i64 0, .int .i64 110]) ∧ w' = w := by
  obtain ⟨x, hr, h⟩ := h.stOpen
  have HV := Lib.hid (version_no h n (isV_no hn))
  have HN := Lib.hid (none_walk w b)
  clear h hr hn
  go_enter Tryd.func85, Tryd.ntmps85
  go_wp2_with fail
  refine HV.out.mono ?_
  rintro e w' ⟨rfl, rfl⟩
  go_wp2_with fail
  refine HN.out.mono ?_
  rintro e w' ⟨rfl, rfl⟩
  go_wp2_with fail
  go_ret2
  exact ⟨rfl, rfl⟩

set_option maxHeartbeats 2000000 in
set_option maxRecDepth 100000 in
theorem drop_none (h : Has o w0 w (.store b A)) (n : Int) (hn : A.isN n = false) :
    Calls Tryd.prog 86 #[.pointer (some ⟨b, 0, none⟩), .int .i64 n] w fun e w' => e = .returned (.int .i64 110) ∧ w' = w := by
  obtain ⟨x, hr, h⟩ := h.stOpen
  have HV := Lib.hid (node_no h n (isN_no hn))
  have HN := Lib.hid (none_walk w b)
  clear h hr hn
  go_enter Tryd.func86, Tryd.ntmps86
  go_wp2_with fail
  refine HV.out.mono ?_
  rintro e w' ⟨rfl, rfl⟩
  go_wp2_with fail
  refine HN.out.mono ?_
  rintro e w' ⟨rfl, rfl⟩
  go_wp2_with fail
  go_ret
  exact ⟨rfl, rfl⟩

set_option maxHeartbeats 2000000 in
set_option maxRecDepth 100000 in
theorem Chain_none (h : Has o w0 w (.store b A)) (n : Int) (hn : A.isN n = false) :
    Calls Tryd.prog 45 #[.pointer (some ⟨b, 0, none⟩), .int .i64 n] w fun e w' => e = .returned (.slice none 0 0) ∧ w' = w := by
  obtain ⟨x, hr, h⟩ := h.stOpen
  have HV := Lib.hid (node_no h n (isN_no hn))
  clear h hr hn
  go_enter Tryd.func45, Tryd.ntmps45
  go_wp2_with fail
  refine HV.out.mono ?_
  rintro e w' ⟨rfl, rfl⟩
  go_wp2_with fail
  go_ret
  exact ⟨rfl, rfl⟩

set_option maxHeartbeats 2000000 in
set_option maxRecDepth 100000 in
theorem drop_empty (h : Has o w0 w (.store b A)) (i : Nat) (v : Int) (hh : A.at_ (.head i) = some v) (hv : A.isV v = false) (hV : A.nV ≤ 1000000000) :
    Calls Tryd.prog 86 #[.pointer (some ⟨b, 0, none⟩), .int .i64 ((i : Int) + 1)] w fun e w' => e = .returned (.int .i64 110) ∧ Has o w0 w' (.store b A.step) := by
  obtain ⟨x, hr, h⟩ := h.stOpen
  have hin := at_head hh
  obtain ⟨gn, capn, hnv⟩ := StP.nodeSlice h hin
  obtain ⟨c0, _, _, _⟩ := StP.fields h
  obtain ⟨c1, _⟩ := StP.nodeCells h hin hnv
  have hw9 := hr.word _ v hh
  have hle := hr.headLe i v hh
  have HN := Lib.hid (node_at h i hin hnv)
  have HNN := Lib.hid (fun W => none_walk W b)
  have HL := Lib.hid (fun (w' : World) (hw : Has o w0 w' (StP b x A)) => stp_load hw hr (.head i) _ hh)
  have HX := Lib.hid h
  have HR := Lib.hid hr
  have HNV := Lib.hid hnv
  have HVN := Lib.hid (isV_no hv)
  have e9 : IntKind.i64.wrap v = v := by unfold IntKind.wrap; simp [IntKind.bits, IntKind.signed]; omega
  clear h hr hh hnv hv
  go_enter Tryd.func86, Tryd.ntmps86
  go_wp2_with fail
  refine HN.out.mono ?_
  rintro e w' ⟨rfl, rfl⟩
  go_wp2_with fail
  go_region_held3 (fun w' => w'.cell? ⟨b, 0, none⟩ = some (.pointer (some ⟨x.ab, 0, none⟩)) ∧ w'.cell? ⟨gn, i * 2, none⟩ = some (.int .i64 ((x.C.n i).1)))
    (first | exact ⟨c0, c1⟩ | exact ⟨d0, d1⟩)
    (first | (go_at_call 51
              refine (HL.out _ (HX.out.quiet ((Kept.refl _ _).drew))).mono ?_
              rintro e w4 ⟨rfl, hX4⟩
              obtain ⟨d0, _, _, _⟩ := StP.fields hX4
              obtain ⟨d1, _⟩ := StP.nodeCells hX4 hin HNV.out
              have HX4 := Lib.hid hX4
              clear hX4))
  have HV := Lib.hid (version_no HX4.out v HVN.out)
  go_wp2_with fail
  refine HV.out.mono ?_
  rintro e w5 ⟨rfl, rfl⟩
  go_wp2_with fail
  refine (HNN.out _).mono ?_
  rintro e w6 ⟨rfl, rfl⟩
  go_wp2_with fail
  go_ret
  exact ⟨rfl, HX4.out.stShut HR.out.step⟩

set_option maxHeartbeats 2000000 in
set_option maxRecDepth 100000 in
theorem node_full (h : Has o w0 w (.store b A)) (hT : TabAt w0) (ho : 0 ∉ o) (hfull : A.size < A.used + 2) :
    Calls Tryd.prog 30 #[.pointer (some ⟨b, 0, none⟩)] w fun e w' => e = .returned (.tuple #[.int .i64 0, .int .i64 31]) ∧ Has o w0 w' (.store b A) := by
  have hfit := h.stOk.fit
  obtain ⟨x, hr, h⟩ := h.stOpen
  have h2 := h.beside (wordsMade (w := w) #[.int .u64 0, .int .u64 0] (fun _ => 0) 2 rfl (fun i hi => match i, hi with | 0, _ => rfl | 1, _ => rfl))
  have HTK := Lib.hid (take_full h2 hT ho (by omega) (by rw [hr.count, hr.size]; exact hfit) (by rw [hr.count, hr.size]; exact hfull))
  have HR := Lib.hid hr
  clear h h2 hr hT ho hfull hfit
  go_enter Tryd.func30, Tryd.ntmps30
  go_wp2_with fail
  refine HTK.out.mono ?_
  rintro e w2 ⟨S', rfl, h1, h2, h3, hX⟩
  have HRN := Lib.hid (HR.out.same h1 h2 h3)
  have HX := Lib.hid hX
  clear hX h1 h2 h3
  go_wp2_with fail
  go_ret2
  exact ⟨rfl, HX.out.stShut (x := { x with S := S' }) HRN.out⟩

set_option maxHeartbeats 2000000 in
set_option maxRecDepth 100000 in
theorem version_full0 (h : Has o w0 w (.store b A)) (hT : TabAt w0) (ho : 0 ∉ o) (val : ByteArray) (bg : Int) (hval : val.size ≤ 64) (hb0 : 0 ≤ bg) (hb1 : bg < 18446744073709551616) (hbg : wBegins bg = true) (hfull : A.size < A.used + 3) :
    Calls Tryd.prog 26 #[.pointer (some ⟨b, 0, none⟩), .string val, .int .u64 bg, .int .i64 0] w fun e w' => e = .returned (.tuple #[.int .i64 0, .int .i64 31]) ∧ Has o w0 w' (.store b A) := by
  have hfit := h.stOk.fit
  obtain ⟨x, hr, h⟩ := h.stOpen
  have d1 : decide ((val.size : Int) > 64) = false := by simp; omega
  have d1' : decide (val.size > 64) = false := by simp; omega
  have HBW := begins_walk w bg hb0 hb1
  rw [hbg] at HBW
  have HBW := Lib.hid HBW
  have h2 := h.beside (wordsMade (w := w) #[.int .u64 bg, .int .u64 1099511627776, .int .u64 0] (verW bg 0) 3 rfl (fun i hi => match i, hi with | 0, _ => rfl | 1, _ => rfl | 2, _ => rfl))
  have HTK := Lib.hid (take_full h2 hT ho (by omega) (by rw [hr.count, hr.size]; exact hfit) (by rw [hr.count, hr.size]; exact hfull))
  have HR := Lib.hid hr
  clear hbg
  clear h h2 hr hT ho hfull hfit
  go_enter Tryd.func26, Tryd.ntmps26
  go_wp2_with fail
  refine HBW.out.mono ?_
  rintro e w' ⟨rfl, rfl⟩
  go_wp2_with fail
  refine HTK.out.mono ?_
  rintro e w2 ⟨S', rfl, h1, h2, h3, hX⟩
  have HRN := Lib.hid (HR.out.same h1 h2 h3)
  have HX := Lib.hid hX
  clear hX h1 h2 h3
  go_wp2_with fail
  go_ret2
  exact ⟨rfl, HX.out.stShut (x := { x with S := S' }) HRN.out⟩

set_option maxHeartbeats 2000000 in
set_option maxRecDepth 100000 in
theorem version_fullN (h : Has o w0 w (.store b A)) (hT : TabAt w0) (ho : 0 ∉ o) (val : ByteArray) (bg : Int) (hval : val.size ≤ 64) (hb0 : 0 ≤ bg) (hb1 : bg < 18446744073709551616) (hbg : wBegins bg = true) {j : Nat} (hj : A.ver j = true) (hV9 : A.nV ≤ 1000000000) (hfull : A.size < A.used + 3) :
    Calls Tryd.prog 26 #[.pointer (some ⟨b, 0, none⟩), .string val, .int .u64 bg, .int .i64 ((j : Int) + 1)] w fun e w' => e = .returned (.tuple #[.int .i64 0, .int .i64 31]) ∧ Has o w0 w' (.store b A) := by
  have hfit := h.stOk.fit
  obtain ⟨x, hr, h⟩ := h.stOpen
  have d1 : decide ((val.size : Int) > 64) = false := by simp; omega
  have d1' : decide (val.size > 64) = false := by simp; omega
  have HBW := begins_walk w bg hb0 hb1
  rw [hbg] at HBW
  have HBW := Lib.hid HBW
  obtain ⟨g0, cap0, hvv0⟩ := StP.verSlice h (ver_lt hj)
  have HV := Lib.hid (version_at h j hj hvv0)
  have hjl := ver_lt hj
  have e1 : IntKind.u64.wrap ((j : Int) + 1) = (j : Int) + 1 := by unfold IntKind.wrap; simp [IntKind.bits, IntKind.signed]; omega
  have f1 : decide ((j : Int) + 1 = 0) = false := by simp; omega
  have f2 : ((j : Int) + 1 == 0) = false := by simp; omega
  clear hvv0
  have h2 := h.beside (wordsMade (w := w) #[.int .u64 bg, .int .u64 1099511627776, .int .u64 ((j : Int) + 1)] (verW bg ((j : Int) + 1)) 3 rfl (fun i hi => match i, hi with | 0, _ => rfl | 1, _ => rfl | 2, _ => rfl))
  have HTK := Lib.hid (take_full h2 hT ho (by omega) (by rw [hr.count, hr.size]; exact hfit) (by rw [hr.count, hr.size]; exact hfull))
  have HR := Lib.hid hr
  clear hbg
  clear h h2 hr hT ho hfull hfit
  go_enter Tryd.func26, Tryd.ntmps26
  go_wp2_with fail
  refine HBW.out.mono ?_
  rintro e w' ⟨rfl, rfl⟩
  go_wp2_with fail
  refine HV.out.mono ?_
  rintro e w' ⟨rfl, rfl⟩
  go_wp2_with fail
  refine HTK.out.mono ?_
  rintro e w2 ⟨S', rfl, h1, h2, h3, hX⟩
  have HRN := Lib.hid (HR.out.same h1 h2 h3)
  have HX := Lib.hid hX
  clear hX h1 h2 h3
  go_wp2_with fail
  go_ret2
  exact ⟨rfl, HX.out.stShut (x := { x with S := S' }) HRN.out⟩

set_option maxHeartbeats 2000000 in
set_option maxRecDepth 100000 in
theorem version_word (w : World) (b : Nat) (val : ByteArray) (bg : Int) (hval : val.size ≤ 64) (hb0 : 0 ≤ bg) (hb1 : bg < 18446744073709551616) (hbg : wBegins bg = false) (nx : Int) :
    Calls Tryd.prog 26 #[.pointer (some ⟨b, 0, none⟩), .string val, .int .u64 bg, .int .i64 nx] w fun e w' => e = .returned (.tuple #[.int .i64 0, .int .i64 50]) ∧ w' = w := by
  have d1 : decide ((val.size : Int) > 64) = false := by simp; omega
  have d1' : decide (val.size > 64) = false := by simp; omega
  have HBW := begins_walk w bg hb0 hb1
  rw [hbg] at HBW
  have HBW := Lib.hid HBW
  clear hbg
  go_enter Tryd.func26, Tryd.ntmps26
  go_wp2_with fail
  refine HBW.out.mono ?_
  rintro e w' ⟨rfl, rfl⟩
  go_wp2_with fail
  go_ret2
  exact ⟨rfl, rfl⟩

set_option maxHeartbeats 2000000 in
set_option maxRecDepth 100000 in
theorem version_none (h : Has o w0 w (.store b A)) (val : ByteArray) (bg : Int) (hval : val.size ≤ 64) (hb0 : 0 ≤ bg) (hb1 : bg < 18446744073709551616) (hbg : wBegins bg = true) (nx : Int) (hn0 : nx ≠ 0) (hn : A.isV nx = false) :
    Calls Tryd.prog 26 #[.pointer (some ⟨b, 0, none⟩), .string val, .int .u64 bg, .int .i64 nx] w fun e w' => e = .returned (.tuple #[.int .i64 0, .int .i64 110]) ∧ w' = w := by
  obtain ⟨x, hr, h⟩ := h.stOpen
  have HV := Lib.hid (version_no h nx (isV_no hn))
  have d1 : decide ((val.size : Int) > 64) = false := by simp; omega
  have d1' : decide (val.size > 64) = false := by simp; omega
  have HBW := begins_walk w bg hb0 hb1
  rw [hbg] at HBW
  have HBW := Lib.hid HBW
  have f1 : decide (nx = 0) = false := by simpa using hn0
  have f2 : (nx == 0) = false := by simpa using hn0
  have f3 : (nx != 0) = true := by simpa using hn0
  clear hbg h hr hn
  go_enter Tryd.func26, Tryd.ntmps26
  go_wp2_with fail
  refine HBW.out.mono ?_
  rintro e w' ⟨rfl, rfl⟩
  go_wp2_with fail
  refine HV.out.mono ?_
  rintro e w' ⟨rfl, rfl⟩
  go_wp2_with fail
  go_ret2
  exact ⟨rfl, rfl⟩

end Go.Proofs.YtbodobdllchmgaaDoor
namespace Go.Proofs.YtbodobdllchmgaaDoor
open Go Go.RowKit
set_option linter.unusedVariables false

set_option maxHeartbeats 1000000 in
set_option maxRecDepth 100000 in
theorem version_long (w : World) (b : Nat) (val : ByteArray) (bg nx : Int) (h : 64 < val.size) :
    Calls Tryd.prog 26 #[.pointer (some ⟨b, 0, none⟩), .string val, .int .u64 bg, .int .i64 nx] w fun e w' => e = .returned (.tuple #[.int .i64 0, .int .i64 111]) ∧ w' = w := by
  have d1 : decide ((val.size : Int) > 64) = true := by simp; omega
  have d1' : decide (val.size > 64) = true := by simp; omega
  go_enter Tryd.func26, Tryd.ntmps26
  go_wp2_with fail
  go_ret2
  exact ⟨rfl, rfl⟩
end Go.Proofs.YtbodobdllchmgaaDoor
namespace Go.Proofs.YtbodobdllchmgaaDoor
open Go Go.RowKit
set_option linter.unusedVariables false

variable {o : List Nat} {w0 w : World} {b rb : Nat} {A A' : ASt} {rs rs' : Int}

/-- What a step may do to the plain store. -/
structure Nxt (A A' : ASt) : Prop where
  size : A'.size = A.size
  ab : A'.ab = A.ab
  nN : A'.nN ≤ A.nN + 1
  nV : A'.nV ≤ A.nV + 1
  nT : A'.nT ≤ A.nT + 1
theorem Nxt.refl (A : ASt) : Nxt A A := ⟨rfl, rfl, by omega, by omega, by omega⟩
theorem Nxt.set (A : ASt) (l : Loc) (v : Int) : Nxt A (A.set l v) := ⟨A.size_set l v, A.ab_set l v, by rw [A.nN_set]; omega, by rw [A.nV_set]; omega, by rw [A.nT_set]; omega⟩

def stp (d : Bool) (s : Int) : Int := if d = true then wrap64 (s + 1) else s

noncomputable def Part.two (b rb : Nat) (A A' : ASt) (rs : Int) : Part := (Part.store b A).sep (.rstore rb A' rs)

/-- Two calls, one behind the other: the same answer. -/
def Duo (o : List Nat) (w0 w : World) (b rb : Nat) (A : ASt) (rs : Int) (touch : Bool) (f g : FuncId) (fa ga : Array Value) (v : Value) : Prop :=
  ∃ (A' : ASt) (d : Bool) (rs' : Int), Nxt A A' ∧ (touch = true → rs' = stp d rs) ∧
    Calls Tryd.prog f fa w (fun e w' => e = .returned v ∧ ∃ st, (touch = true → st = stp d A.steps) ∧ Has o w0 w' (.two b rb (A'.at st) A rs)) ∧
    ∀ o2 w1 st, Has o2 w1 w1 (.two b rb (A'.at st) A rs) → Calls Tryd.prog g ga w1 (fun e w' => e = .returned v ∧ Has o2 w1 w' (.two b rb (A'.at st) (A'.at st) rs'))

theorem duo_mk {touch : Bool} {f g : FuncId} {fa ga : Array Value} {v : Value} (A' : ASt) (d : Bool) (rs' : Int) (h : Has o w0 w (.two b rb A A rs)) (nx : Nxt A A') (ht : touch = true → rs' = stp d rs)
    (c1 : ∀ o1, Has o1 w w (.store b A) → (∀ y ∈ o1, y ∈ o ∨ w0.heap.size ≤ y) → Calls Tryd.prog f fa w (fun e w' => e = .returned v ∧ ∃ st, (touch = true → st = stp d A.steps) ∧ Has o1 w w' (.store b (A'.at st))))
    (c2 : ∀ o2 w1, Has o2 w1 w1 (.rstore rb A rs) → Calls Tryd.prog g ga w1 (fun e w' => e = .returned v ∧ Has o2 w1 w' (.rstore rb A' rs'))) : Duo o w0 w b rb A rs touch f g fa ga v := by
  refine ⟨A', d, rs', nx, ht, ?_, fun o3 w1 st h1 => ?_⟩
  · obtain ⟨o1, h1, p1, _, b1⟩ := Has.left (A := .store b A) (B := .rstore rb A rs) h
    refine (c1 o1 h1 p1).mono ?_
    rintro e w' ⟨rfl, st, hs, h'⟩
    exact ⟨rfl, st, hs, b1 _ _ h'⟩
  · obtain ⟨o2, h2, _, _, b2⟩ := Has.right (A := .store b (A'.at st)) (B := .rstore rb A rs) h1
    refine (c2 o2 w1 h2).mono ?_
    rintro e w' ⟨rfl, h'⟩
    exact ⟨rfl, b2 _ _ h'⟩

/-- An answer that leaves all as it was. -/
theorem duo_same {touch : Bool} {f g : FuncId} {fa ga : Array Value} {v : Value} (h : Has o w0 w (.two b rb A A rs))
    (c1 : ∀ o1, Has o1 w w (.store b A) → Calls Tryd.prog f fa w (fun e w' => e = .returned v ∧ w' = w))
    (c2 : ∀ o2 w1, Has o2 w1 w1 (.rstore rb A rs) → Calls Tryd.prog g ga w1 (fun e w' => e = .returned v ∧ w' = w1)) : Duo o w0 w b rb A rs touch f g fa ga v := by
  refine duo_mk A false rs h (.refl A) (fun _ => rfl) (fun o1 h1 _ => (c1 o1 h1).mono ?_) (fun o2 w1 h2 => (c2 o2 w1 h2).mono ?_)
  · rintro e w' ⟨rfl, rfl⟩
    exact ⟨rfl, A.steps, fun _ => rfl, h1⟩
  · rintro e w' ⟨rfl, rfl⟩
    exact ⟨rfl, h2⟩
/-- A touch that lays nothing. -/
theorem duo_step {touch : Bool} {f g : FuncId} {fa ga : Array Value} {v : Value} (h : Has o w0 w (.two b rb A A rs))
    (c1 : ∀ o1, Has o1 w w (.store b A) → Calls Tryd.prog f fa w (fun e w' => e = .returned v ∧ Has o1 w w' (.store b A.step)))
    (c2 : ∀ o2 w1, Has o2 w1 w1 (.rstore rb A rs) → Calls Tryd.prog g ga w1 (fun e w' => e = .returned v ∧ Has o2 w1 w' (.rstore rb A (wrap64 (rs + 1))))) : Duo o w0 w b rb A rs touch f g fa ga v := by
  refine duo_mk A true (wrap64 (rs + 1)) h (.refl A) (fun _ => rfl) (fun o1 h1 _ => (c1 o1 h1).mono ?_) (fun o2 w1 h2 => c2 o2 w1 h2)
  rintro e w' ⟨rfl, h'⟩
  exact ⟨rfl, wrap64 (A.steps + 1), fun _ => rfl, h'⟩
theorem at_set_step (A : ASt) (l : Loc) (q : Int) : A.step.set l q = (A.set l q).at (wrap64 (A.steps + 1)) := by cases l <;> rfl
/-- A touch that lays a number. -/
theorem duo_set {touch : Bool} {f g : FuncId} {fa ga : Array Value} {v : Value} (l : Loc) (q : Int) (h : Has o w0 w (.two b rb A A rs))
    (c1 : ∀ o1, Has o1 w w (.store b A) → Calls Tryd.prog f fa w (fun e w' => e = .returned v ∧ Has o1 w w' (.store b (A.step.set l q))))
    (c2 : ∀ o2 w1, Has o2 w1 w1 (.rstore rb A rs) → Calls Tryd.prog g ga w1 (fun e w' => e = .returned v ∧ Has o2 w1 w' (.rstore rb (A.set l q) (wrap64 (rs + 1))))) : Duo o w0 w b rb A rs touch f g fa ga v := by
  refine duo_mk (A.set l q) true (wrap64 (rs + 1)) h (.set A l q) (fun _ => rfl) (fun o1 h1 _ => (c1 o1 h1).mono ?_) (fun o2 w1 h2 => c2 o2 w1 h2)
  rintro e w' ⟨rfl, h'⟩
  rw [at_set_step] at h'
  exact ⟨rfl, wrap64 (A.steps + 1), fun _ => rfl, h'⟩

/-- The same beside other things. -/
def DuoB (o : List Nat) (w0 w : World) (b rb : Nat) (A : ASt) (rs : Int) (touch : Bool) (f g : FuncId) (fa ga : Array Value) (v : Value) (B : Part) : Prop :=
  ∃ (A' : ASt) (d : Bool) (rs' : Int), Nxt A A' ∧ (touch = true → rs' = stp d rs) ∧
    Calls Tryd.prog f fa w (fun e w' => e = .returned v ∧ ∃ st, (touch = true → st = stp d A.steps) ∧ Has o w0 w' ((Part.two b rb (A'.at st) A rs).sep B)) ∧
    ∀ w1 st, Has o w0 w1 ((Part.two b rb (A'.at st) A rs).sep B) → Calls Tryd.prog g ga w1 (fun e w' => e = .returned v ∧ Has o w0 w' ((Part.two b rb (A'.at st) (A'.at st) rs').sep B))
theorem Duo.beside {o1 : List Nat} {touch : Bool} {f g : FuncId} {fa ga : Array Value} {v : Value} {B : Part} (D : Duo o1 w w b rb A rs touch f g fa ga v) (b1 : ∀ w' X, Has o1 w w' X → Has o w0 w' (X.sep B)) : DuoB o w0 w b rb A rs touch f g fa ga v B := by
  obtain ⟨A', d, rs', nx, ht, c1, c2⟩ := D
  refine ⟨A', d, rs', nx, ht, c1.mono ?_, fun w1 st h1 => ?_⟩
  · rintro e w' ⟨rfl, st, hs, h'⟩
    exact ⟨rfl, st, hs, b1 _ _ h'⟩
  · obtain ⟨o2, h2, _, _, b2⟩ := h1.left
    refine (c2 o2 w1 st h2).mono ?_
    rintro e w' ⟨rfl, h'⟩
    exact ⟨rfl, b2 _ _ h'⟩

theorem two_ok (h : Has o w0 w (.two b rb A A' rs)) : AOk A := by
  obtain ⟨o1, h1, _⟩ := Has.left (A := .store b A) (B := .rstore rb A' rs) h
  exact h1.stOk

theorem some_of {A : ASt} {i : Nat} (hi : i < A.nN) : A.at_ (.head i) = some (A.N i).1 ∧ A.at_ (.lock i) = some (A.N i).2 := ⟨if_pos hi, if_pos hi⟩
theorem some_ofV {A : ASt} {i : Nat} (hi : A.ver i = true) : A.at_ (.begin_ i) = some (A.V i).begin_ ∧ A.at_ (.end_ i) = some (A.V i).end_ ∧ A.at_ (.next i) = some (A.V i).next := ⟨if_pos hi, if_pos hi, if_pos hi⟩
theorem some_ofT {A : ASt} {i : Nat} (hi : A.txn i = true) : A.at_ (.state i) = some (A.T i).1 := if_pos hi

abbrev P0 (b : Nat) : Value := .pointer (some ⟨b, 0, none⟩)

theorem duo_push (h : Has o w0 w (.two b rb A A rs)) (hV : A.nV ≤ 1000000000) (n p q : Int) :
    ∃ (x : Bool) (c : Int), Duo o w0 w b rb A rs true 27 40 #[P0 b, .int .i64 n, .int .i64 p, .int .i64 q] #[P0 rb, .int .i64 n, .int .i64 p, .int .i64 q] (.tuple #[.bool x, .int .i64 c]) := by
  by_cases hno : A.isN n = false ∨ (p ≠ 0 ∧ A.isV p = false) ∨ A.isV q = false
  · exact ⟨false, 110, duo_same h (fun o1 h1 => push_none h1 n p q hno) (fun o2 w1 h2 => rpush_no h2 n p q hno)⟩
  · have hn : A.isN n = true := by
      cases hx : A.isN n
      · exact absurd (.inl hx) hno
      · rfl
    have hq : A.isV q = true := by
      cases hx : A.isV q
      · exact absurd (.inr (.inr hx)) hno
      · rfl
    have hp : p = 0 ∨ A.isV p = true := by
      by_cases h0 : p = 0
      · exact .inl h0
      · cases hx : A.isV p
        · exact absurd (.inr (.inl ⟨h0, hx⟩)) hno
        · exact .inr rfl
    obtain ⟨i, rfl, hi⟩ := isN_at hn
    obtain ⟨j, rfl, hj⟩ := isV_at hq
    have hv := (some_of hi).1
    by_cases he : (A.N i).1 = p
    · rw [he] at hv
      refine ⟨true, 0, duo_set (.head i) ((j : Int) + 1) h (fun o1 h1 => ?_) (fun o2 w1 h2 => rpush_yes h2 i p _ hv hp hq)⟩
      rcases hp with rfl | hp
      · exact push_first h1 i j hv hj hV
      · obtain ⟨k, rfl, hk⟩ := isV_at hp
        exact push_over h1 i j k hk hv hj hV
    · refine ⟨false, 0, duo_step h (fun o1 h1 => ?_) (fun o2 w1 h2 => rpush_not h2 i _ p _ hv he hp hq)⟩
      rcases hp with rfl | hp
      · exact push_first_not h1 i j _ hv hj he hV
      · obtain ⟨k, rfl, hk⟩ := isV_at hp
        exact push_over_not h1 i j k hk _ hv hj he hV

theorem duo_setEnd (h : Has o w0 w (.two b rb A A rs)) (n q : Int) (hq0 : 0 ≤ q) (hq1 : q < 18446744073709551616) :
    ∃ c : Int, Duo o w0 w b rb A rs true 38 39 #[P0 b, .int .i64 n, .int .u64 q] #[P0 rb, .int .i64 n, .int .u64 q] (.int .i64 c) := by
  by_cases hn : A.isV n = true
  · obtain ⟨i, rfl, hi⟩ := isV_at hn
    have hv := (some_ofV hi).2.1
    cases hq : wOk q
    · exact ⟨50, duo_same h (fun o1 h1 => setEnd_bad h1 i _ q hv hq0 hq1 hq) (fun o2 w1 h2 => rsetEnd_bad h2 _ q hn hq0 hq1 hq)⟩
    · exact ⟨0, duo_set (.end_ i) q h (fun o1 h1 => setEnd_at h1 i _ q hv hq0 hq1 hq) (fun o2 w1 h2 => rsetEnd_at h2 i _ q hv hq0 hq1 hq)⟩
  · have hn' : A.isV n = false := by simpa using hn
    exact ⟨110, duo_same h (fun o1 h1 => setEnd_no h1 n (isV_no hn') q) (fun o2 w1 h2 => rsetEnd_no h2 n q hq0 hq1 hn')⟩
theorem two_tab (hT : TabAt w0) (ho : 0 ∉ o) (h : Has o w0 w (.two b rb A A' rs)) : TabAt w := hT.kept h.keeps ho

theorem duo_node (h : Has o w0 w (.two b rb A A rs)) (hT : TabAt w0) (ho : 0 ∉ o) (hN : A.nN ≤ 1000000000) :
    ∃ x c : Int, Duo o w0 w b rb A rs false 30 36 #[P0 b] #[P0 rb] (.tuple #[.int .i64 x, .int .i64 c]) := by
  have hok := two_ok h
  have hTw := two_tab hT ho h
  by_cases hf : A.used + 2 ≤ A.size
  · refine ⟨_, 0, duo_mk (A.addNode A.steps) false rs h ⟨rfl, rfl, Nat.le_refl _, by show A.nV ≤ _; omega, by show A.nT ≤ _; omega⟩ (fun e => by cases e) (fun o1 h1 p1 => (node_make h1 hTw (tab_out hT ho p1) hf).mono ?_) (fun o2 w1 h2 => rnode_make h2 (by unfold ASt.free; omega) hN hok.big A.steps)⟩
    rintro e w' ⟨rfl, st, h'⟩
    exact ⟨rfl, st, fun e => (by cases e), h'⟩
  · refine ⟨0, 31, duo_mk A false rs h (.refl A) (fun e => by cases e) (fun o1 h1 p1 => (node_full h1 hTw (tab_out hT ho p1) (by omega)).mono ?_) (fun o2 w1 h2 => (rnode_full h2 (by unfold ASt.free; omega)).mono ?_)⟩
    · rintro e w' ⟨rfl, h'⟩
      exact ⟨rfl, A.steps, fun e => (by cases e), h'⟩
    · rintro e w' ⟨rfl, rfl⟩
      exact ⟨rfl, h2⟩

theorem nxOk_of {A : ASt} {n : Int} (h : n = 0 ∨ A.isV n = true) : A.nxOk n := by
  rcases h with h | h
  · exact .inl h
  · exact .inr (isV_at h)

theorem duo_version (h : Has o w0 w (.two b rb A A rs)) (hT : TabAt w0) (ho : 0 ∉ o) (hV : A.nV ≤ 1000000000) (val : ByteArray) (bg nx : Int) (hb0 : 0 ≤ bg) (hb1 : bg < 18446744073709551616) :
    ∃ x c : Int, Duo o w0 w b rb A rs false 26 37 #[P0 b, .string val, .int .u64 bg, .int .i64 nx] #[P0 rb, .string val, .int .u64 bg, .int .i64 nx] (.tuple #[.int .i64 x, .int .i64 c]) := by
  have hok := two_ok h
  have hTw := two_tab hT ho h
  by_cases hval : val.size ≤ 64
  · cases hbg : wBegins bg
    · exact ⟨0, 50, duo_same h (fun o1 h1 => version_word w b val bg hval hb0 hb1 hbg nx) (fun o2 w1 h2 => rversion_bad h2 val bg nx hb0 hb1 50 (.inr (.inl ⟨hval, hbg, rfl⟩)))⟩
    · by_cases hnx : nx = 0 ∨ A.isV nx = true
      · by_cases hf : A.used + 3 ≤ A.size
        · refine ⟨_, 0, duo_mk (A.addVer A.steps val bg nx) false rs h ⟨rfl, rfl, by show A.nN ≤ _; omega, Nat.le_refl _, by show A.nT ≤ _; omega⟩ (fun e => by cases e) (fun o1 h1 p1 => (version_ok (nxOk_of hnx) h1 hTw (tab_out hT ho p1) hf hval hb0 hb1 hbg hV).mono ?_) (fun o2 w1 h2 => rversion_make h2 hb0 hb1 hval hbg hnx (by unfold ASt.free; omega) hV hok.big A.steps)⟩
          rintro e w' ⟨rfl, st, h'⟩
          exact ⟨rfl, st, fun e => (by cases e), h'⟩
        · refine ⟨0, 31, duo_mk A false rs h (.refl A) (fun e => by cases e) (fun o1 h1 p1 => ?_) (fun o2 w1 h2 => (rversion_bad h2 val bg nx hb0 hb1 31 (.inr (.inr (.inr ⟨hval, hbg, hnx, by unfold ASt.free; omega, rfl⟩)))).mono ?_)⟩
          · have key : Calls Tryd.prog 26 #[P0 b, .string val, .int .u64 bg, .int .i64 nx] w fun e w' => e = .returned (.tuple #[.int .i64 0, .int .i64 31]) ∧ Has o1 w w' (.store b A) := by
              rcases hnx with rfl | hnx
              · exact version_full0 h1 hTw (tab_out hT ho p1) val bg hval hb0 hb1 hbg (by omega)
              · obtain ⟨j, rfl, hj⟩ := isV_at hnx
                exact version_fullN h1 hTw (tab_out hT ho p1) val bg hval hb0 hb1 hbg hj hV (by omega)
            refine key.mono ?_
            rintro e w' ⟨rfl, h'⟩
            exact ⟨rfl, A.steps, fun e => (by cases e), h'⟩
          · rintro e w' ⟨rfl, rfl⟩
            exact ⟨rfl, h2⟩
      · have h0 : nx ≠ 0 := fun e => hnx (.inl e)
        have h1v : A.isV nx = false := by
          cases hx : A.isV nx
          · rfl
          · exact absurd (.inr hx) hnx
        exact ⟨0, 110, duo_same h (fun o1 h1 => version_none h1 val bg hval hb0 hb1 hbg nx h0 h1v) (fun o2 w1 h2 => rversion_bad h2 val bg nx hb0 hb1 110 (.inr (.inr (.inl ⟨hval, hbg, h0, h1v, rfl⟩))))⟩
  · exact ⟨0, 111, duo_same h (fun o1 h1 => version_long w b val bg nx (by omega)) (fun o2 w1 h2 => rversion_bad h2 val bg nx hb0 hb1 111 (.inl ⟨by omega, rfl⟩))⟩

theorem goneAll_at (A : ASt) (st : Int) (l : List Nat) : (A.at st).goneAll l = (A.goneAll l).at st := by
  unfold ASt.goneAll
  induction l generalizing A with
  | nil => rfl
  | cons c cs ih => exact ih (A.goneV (c - 1))
theorem at_set_at (A : ASt) (st : Int) (l : Loc) (q : Int) : (A.at st).set l q = (A.set l q).at st := by cases l <;> rfl

theorem chain_live (hok : AOk A) (f : Nat) (n : Int) (hn : n ≤ A.nV) : (∀ v ∈ chainF A f n, 1 ≤ v ∧ (v : Int) ≤ n ∧ A.ver (v - 1) = true) ∧ (chainF A f n).Pairwise (· > ·) ∧ ((chainF A f n).length : Nat) ≤ n.toNat := by
  induction f generalizing n with
  | zero => exact ⟨fun v hv => by simp [chainF] at hv, List.Pairwise.nil, Nat.zero_le _⟩
  | succ f ih =>
    by_cases hc : 1 ≤ n ∧ A.ver (n - 1).toNat = true
    · obtain ⟨i, rfl⟩ : ∃ i : Nat, n = (i : Int) + 1 := ⟨(n - 1).toNat, by omega⟩
      rw [show ((i : Int) + 1 - 1).toNat = i by omega] at hc
      rw [chainF_go hc.2]
      have hle := hok.nextLe i _ ((some_ofV hc.2).2.2)
      obtain ⟨h1, h2, h3⟩ := ih (A.V i).next (by omega)
      refine ⟨fun v hv => ?_, List.pairwise_cons.2 ⟨fun v hv => ?_, h2⟩, ?_⟩
      · rcases List.mem_cons.1 hv with rfl | hv
        · exact ⟨by omega, by omega, by rw [show i + 1 - 1 = i by omega]; exact hc.2⟩
        · obtain ⟨a, b', c⟩ := h1 v hv
          exact ⟨a, by omega, c⟩
      · have := (h1 v hv).2.1; omega
      · rw [List.length_cons]; omega
    · rw [chainF_stop hc]
      exact ⟨fun v hv => by simp at hv, List.Pairwise.nil, Nat.zero_le _⟩

theorem duo_cut (h : Has o w0 w (.two b rb A A rs)) (hV : A.nV ≤ 1000000000) (n : Int) :
    ∃ x c : Int, Duo o w0 w b rb A rs false 85 43 #[P0 b, .int .i64 n] #[P0 rb, .int .i64 n] (.tuple #[.int .i64 x, .int .i64 c]) := by
  by_cases hn : A.isV n = true
  · obtain ⟨i, rfl, hi⟩ := isV_at hn
    have hok := two_ok h
    have hv := (some_ofV hi).2.2
    have hle := hok.nextLe i _ hv
    have hlt := ver_lt hi
    obtain ⟨l1, l2, l3⟩ := chain_live hok (A.V i).next.toNat (A.V i).next (by omega)
    have hg := goneAll_same (A.set (.next i) 0) (chainF A (A.V i).next.toNat (A.V i).next)
    refine ⟨_, 0, duo_mk ((A.set (.next i) 0).goneAll (chainF A (A.V i).next.toNat (A.V i).next)) false rs h ⟨by rw [hg.1, A.size_set], by rw [hg.2.1, A.ab_set], by rw [goneAll_nN, A.nN_set]; omega, by rw [goneAll_nV, A.nV_set]; omega, by rw [hg.2.2, A.nT_set]; omega⟩ (fun e => by cases e) (fun o1 h1 _ => (cut_at h1 i _ hv hV).mono ?_) (fun o2 w1 h2 => rcut_at h2 hok i _ hv hV (fun v hm => ⟨(l1 v hm).1, by rw [A.ver_set]; exact (l1 v hm).2.2⟩) l2 (by omega))⟩
    rintro e w' ⟨rfl, st, h'⟩
    rw [at_set_at, goneAll_at] at h'
    exact ⟨rfl, st, fun e => (by cases e), h'⟩
  · have hn' : A.isV n = false := by simpa using hn
    exact ⟨0, 110, duo_same h (fun o1 h1 => cut_none h1 n hn') (fun o2 w1 h2 => rcut_no h2 n hn')⟩

theorem duo_drop (h : Has o w0 w (.two b rb A A rs)) (hV : A.nV ≤ 1000000000) (n : Int) :
    ∃ c : Int, Duo o w0 w b rb A rs false 86 44 #[P0 b, .int .i64 n] #[P0 rb, .int .i64 n] (.int .i64 c) := by
  by_cases hn : A.isN n = true
  · obtain ⟨i, rfl, hi⟩ := isN_at hn
    have hok := two_ok h
    have hv := (some_of hi).1
    by_cases hh : A.isV (A.N i).1 = true
    · obtain ⟨j, hj, hj2⟩ := isV_at hh
      rw [hj] at hv
      have hx := (some_ofV hj2).2.2
      refine ⟨0, duo_mk ((A.set (.head i) (A.V j).next).goneV j) false rs h ⟨by show (A.set _ _).size = _; rw [A.size_set], by show (A.set _ _).ab = _; rw [A.ab_set], by show (A.set _ _).nN ≤ _; rw [A.nN_set]; omega, by show (A.set _ _).nV ≤ _; rw [A.nV_set]; omega, by show (A.set _ _).nT ≤ _; rw [A.nT_set]; omega⟩ (fun e => by cases e) (fun o1 h1 _ => (drop_at h1 i j _ hv hx hV).mono ?_) (fun o2 w1 h2 => rdrop_at h2 hok i j _ hv hx)⟩
      rintro e w' ⟨rfl, st, h'⟩
      rw [at_set_at] at h'
      exact ⟨rfl, st, fun e => (by cases e), h'⟩
    · have hh' : A.isV (A.N i).1 = false := by simpa using hh
      refine ⟨110, duo_mk A false rs h (.refl A) (fun e => by cases e) (fun o1 h1 _ => (drop_empty h1 i _ hv hh' hV).mono ?_) (fun o2 w1 h2 => (rdrop_none h2 i _ hv hh').mono ?_)⟩
      · rintro e w' ⟨rfl, h'⟩
        exact ⟨rfl, wrap64 (A.steps + 1), fun e => (by cases e), h'⟩
      · rintro e w' ⟨rfl, rfl⟩
        exact ⟨rfl, h2⟩
  · have hn' : A.isN n = false := by simpa using hn
    exact ⟨110, duo_same h (fun o1 h1 => drop_none h1 n hn') (fun o2 w1 h2 => rdrop_no h2 n hn')⟩
end Go.Proofs.YtbodobdllchmgaaDoor
