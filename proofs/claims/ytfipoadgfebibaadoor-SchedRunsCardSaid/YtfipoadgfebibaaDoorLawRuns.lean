/- The walk of SchedRuns: true at all programs and picks, and nothing that was there has changed. -/
import Derived.Test.YtfipoadgfebibaaDoorRefRun
import Derived.Test.YtfipoadgfebibaaDoorShown
namespace Go.Proofs.YtfipoadgfebibaaDoor
open Go Go.RowKit
set_option linter.unusedVariables false

/-- What came out, and stores to it. -/
theorem outs_open {o : List Nat} {w0 w : World} {v : Value} {n : Nat} {ov : Nat → Value} {O : Nat → List Int} {C : Part} (h : Has o w0 w ((Part.outs v n ov O).sep C)) {i : Nat} (hi : i < n) :
    ∃ b cap, v = .slice (some ⟨b, 0, none⟩) n cap ∧ w.cell? ⟨b, i, none⟩ = some (ov i) ∧ (∃ p c, ov i = .slice p (O i).length c) ∧ ∀ k, k < (O i).length → ∃ g c, ov i = .slice (some ⟨g, 0, none⟩) (O i).length c ∧
      w.cell? ⟨g, k, none⟩ = some (.int .u64 ((O i).getD k 0)) ∧ w.frozen? ⟨g, k, none⟩ = false ∧ ∀ u : Int, Has o w0 (w.setCell ⟨g, k, none⟩ (.int .u64 u)) ((Part.outs v n ov (updF O i ((O i).set k u))).sep C) := by
  obtain ⟨o1, h1, _, _, b1⟩ := h.left
  obtain ⟨o2, h2, _, _, b2⟩ := h1.left
  obtain ⟨o3, h3, _, _, b3⟩ := h1.right
  obtain ⟨o4, h4, _, _, b4⟩ := h3.pick hi
  have hr2 : w.ownsRow 0 26 1 v n ((List.range n).map ov) := by obtain ⟨fp, ⟨hr, _⟩, _⟩ := h2; exact hr
  have hr4 : w.ownsRow 0 32 1 (ov i) (O i).length ((O i).map (Value.int .u64)) := by obtain ⟨fp, ⟨hr, _⟩, _⟩ := h4; exact hr
  obtain ⟨b, cap, hv, _, _, _, _, hc⟩ := row_out hr2 (by omega)
  refine ⟨b, cap, hv, hc i _ (by rw [List.getElem?_map, List.getElem?_range hi]; rfl), ?_, fun k hk => ?_⟩
  · rcases row_val hr4 with ⟨e, h0⟩ | ⟨g, c, e, _⟩
    · exact ⟨none, 0, by rw [h0]; exact e⟩
    · exact ⟨_, c, e⟩
  · obtain ⟨g, c, e, _, _, _, hf, hc⟩ := row_out hr4 (by omega)
    rw [e] at h4
    refine ⟨g, c, e, hc k _ (by rw [List.getElem?_map, List.getD_eq_getElem?_getD, List.getElem?_eq_getElem hk]; rfl), hf k, fun u => ?_⟩
    have h5 := h4.setRow k (.int .u64 u) hk
    have h6 := b4 _ _ h5
    exact b1 _ _ (b3 _ (.all n fun j => .row 32 1 (ov j) (updF O i ((O i).set k u) j).length ((updF O i ((O i).set k u) j).map (Value.int .u64))) (h6.congr fun j hj => by
      unfold updP updF
      by_cases ej : j = i
      · subst ej; simp [e, List.map_set]
      · simp [ej]))

theorem row_put' {o : List Nat} {w0 w : World} {A B : Part} {e : TypeId} {g cap n : Nat} {xs : List Value} (h : Has o w0 w ((A.sep (.row e 1 (.slice (some ⟨g, 0, none⟩) n cap) n xs)).sep B)) {k : Nat} (hk : k < n) :
    (∃ u, w.cell? ⟨g, k, none⟩ = some u) ∧ w.frozen? ⟨g, k, none⟩ = false ∧ ∀ u, Has o w0 (w.setCell ⟨g, k, none⟩ u) ((A.sep (.row e 1 (.slice (some ⟨g, 0, none⟩) n cap) n (xs.set k u))).sep B) := by
  obtain ⟨o1, h1, _, _, b1⟩ := h.left
  obtain ⟨o2, h2, _, _, b2⟩ := h1.right
  have hr2 : w.ownsRow 0 e 1 (.slice (some ⟨g, 0, none⟩) n cap) n xs := by obtain ⟨fp, ⟨hr, _⟩, _⟩ := h2; exact hr
  have hl : xs.length = n := by have := hr2.1; omega
  obtain ⟨c1, c2⟩ := h2.rowCell k _ (List.getElem?_eq_getElem (by omega))
  exact ⟨⟨_, c1⟩, c2, fun u => b1 _ _ (b2 _ _ (h2.setRow k u hk))⟩

theorem nilLists (w : World) : ListsAt w (.slice none 0 0) 0 (fun _ => 0) (fun _ _ => 0) := ⟨fun _ => default, ⟨none, 0, rfl, fun h => by omega⟩, fun i hi => by omega⟩
theorem nilRow (w : World) (f : Nat → Value) : RowAt w (.slice none 0 0) 0 f := ⟨none, 0, rfl, fun h => by omega⟩

set_option maxHeartbeats 4000000 in
set_option maxRecDepth 100000 in
theorem runs_no (w : World) (hT : TabAt w) (size : Int) (v pv : Value) (n : Nat) (L : Nat → Nat) (vs : Nat → Value) (P : Nat → Nat → OpV) (h : ProgsAt w v n L vs P) (hno : ¬ runOk size n L P) :
    Calls Tryd.prog 3 #[.int .i64 size, v, pv] w fun e w' => e = .returned (.bool true) ∧ Kept [] w w' := by
  have HH := Lib.hid h
  have HNO := Lib.hid hno
  have HT := Lib.hid hT
  clear h hno hT
  go_enter Tryd.func3, Tryd.ntmps3
  go_wp2_with fail
  refine (shown_calls w HT.out).mono ?_
  rintro e w1 ⟨rfl, hk⟩
  have HK := Lib.hid hk
  clear hk
  go_wp2_with fail
  refine (run_no w1 size v pv n L vs P (HH.out.kept HK.out (by simp)) HNO.out).mono ?_
  rintro e w2 ⟨rfl, hk⟩
  have HK2 := Lib.hid (HK.out.tr hk)
  clear hk HK
  go_wp2_with fail
  refine (rrun_no w2 size v pv n L vs P (HH.out.kept HK2.out (by simp)) HNO.out).mono ?_
  rintro e w3 ⟨rfl, hk⟩
  have HK3 := Lib.hid (HK2.out.tr hk)
  clear hk HK2
  go_wp2_with fail
  refine (lists_same w3 _ _ 0 _ _ (nilLists _) (nilLists _) (Nat.zero_le _)).mono ?_
  rintro e w4 ⟨rfl, q4, rfl⟩
  go_wp2_with fail
  refine (words_same _ _ _ 0 (fun _ => 0) (nilRow _ _) (nilRow _ _) (Nat.zero_le _)).mono ?_
  rintro e w5 ⟨rfl, q5, rfl⟩
  have HK4 := Lib.hid ((HK3.out.drewN q4).drewN q5)
  generalize (w3.drewN q4).drewN q5 = w5 at *
  clear HK3
  go_wp2_with fail
  go_loopg [17] 0 (fun k iv wr => iv = .int .i64 0 ∧ wr = w5)
  case atStart => exact ⟨rfl, rfl⟩
  case round =>
    obtain ⟨rfl, rfl⟩ := hrel
    go_wp2_with fail
    go_loopg [19] 0 (fun k iv wx => iv = .int .i64 0 ∧ wx = wr)
    case atStart => exact ⟨rfl, rfl⟩
    case round =>
      obtain ⟨rfl, rfl⟩ := hrel
      go_wp2_with fail
      refine (run_no _ size v pv n L vs P (HH.out.kept HK4.out (by simp)) HNO.out).mono ?_
      rintro e w6 ⟨rfl, hk⟩
      have HK6 := Lib.hid (HK4.out.tr hk)
      clear hk
      go_wp2_with fail
      refine (lists_same w6 _ _ 0 _ _ (nilLists _) (nilLists _) (Nat.zero_le _)).mono ?_
      rintro e w7 ⟨rfl, q7, rfl⟩
      go_wp2_with fail
      go_ret
      exact ⟨rfl, HK6.out.drewN _⟩

noncomputable def cellsRow (size : Nat) (S : Ar) : List Value := (List.range size).map fun c => .int .u64 ((S.get c).getD 0)

set_option maxHeartbeats 8000000 in
set_option maxRecDepth 100000 in
theorem runs_yes (w : World) (hT : TabAt w) (size : Nat) (v pv : Value) (n : Nat) (L : Nat → Nat) (vs : Nat → Value) (P : Nat → Nat → OpV) (m : Nat) (z : Nat → Int) (h : ProgsAt w v n L vs P) (hp : PicksAt w pv m z) (hok : runOk size n L P) :
    Calls Tryd.prog 3 #[.int .i64 size, v, pv] w fun e w' => e = .returned (.bool true) ∧ Kept [] w w' := by
  have HH := Lib.hid h
  have HP := Lib.hid hp
  have HOK := Lib.hid hok
  have HT := Lib.hid hT
  have hs1 : 1 ≤ size := by have := hok.1; omega
  have hs2 : size ≤ 65536 := by have := hok.2.1; omega
  have hn16 : n ≤ 16 := hok.2.2.1
  have hn9 : n ≤ maxLen := by simp only [maxLen]; omega
  clear h hp hok hT
  go_enter Tryd.func3, Tryd.ntmps3
  go_wp2_with fail
  refine (shown_calls w HT.out).mono ?_
  rintro e w1 ⟨rfl, hk⟩
  have HK := Lib.hid hk
  have HK1 := Lib.hid hk
  clear hk
  go_wp2_with fail
  refine (run_calls w1 (HT.out.kept HK.out (by simp)) size v pv n L vs P m z (HH.out.kept HK.out (by simp)) (HP.out.kept HK.out (by simp)) HOK.out).mono ?_
  rintro e w2 ⟨av, ah, avs, rfl, hA⟩
  have hk2 := HK.out.tr hA.keeps
  have HK2 := Lib.hid hk2
  have HA := Lib.hid hA
  clear hA HK hk2
  go_wp2_with fail
  refine (rrun_calls w2 size v pv n L vs P m z (HH.out.kept HK2.out (by simp)) (HP.out.kept HK2.out (by simp)) HOK.out).mono ?_
  rintro e w3 ⟨bv, bh, bvs, rfl, hB⟩
  have HK3 := Lib.hid (HK2.out.tr hB.keeps)
  have HAB := Lib.hid (HA.out.beside hB)
  have HBL := Lib.hid hB.fst.lists
  obtain ⟨ox, hx, _⟩ := hB.right
  have HBR := Lib.hid (hx.rowAt (fun c => .int .u64 (((runS n L P (allTaken size) z m).1.get c).getD 0)) (fun i hi => by rw [List.getElem?_map, List.getElem?_range hi]; rfl))
  have hsz := hx.rowSmall
  have HAL := Lib.hid ((HA.out.quiet hB.keeps).fst.lists)
  obtain ⟨oy, hy, _⟩ := (HA.out.quiet hB.keeps).right
  have HAR := Lib.hid (hy.rowAt (fun c => .int .u64 (((runS n L P (allTaken size) z m).1.get c).getD 0)) (fun i hi => by rw [List.getElem?_map, List.getElem?_range hi]; rfl))
  clear hB hx hy HA HK2
  generalize hO : (runS n L P (allTaken size) z m).2.1 = O at *
  generalize hM : (runS n L P (allTaken size) z m).2.2 = M at *
  have HO := Lib.hid hO
  have HM := Lib.hid hM
  clear hO hM
  have hmx : ∀ i, i < n → (O i).length ≤ maxLen := by obtain ⟨_, _, hl9⟩ := HBL.out; exact fun i hi => (hl9 i hi).2
  have HMX := Lib.hid hmx
  clear hmx
  go_wp2_with fail
  refine (lists_same w3 _ _ n _ _ HAL.out HBL.out hn9).mono ?_
  rintro e w4 ⟨rfl, q4, rfl⟩
  go_wp2_with fail
  refine (words_same _ _ _ size _ (HAR.out.drewN _) (HBR.out.drewN _) hsz).mono ?_
  rintro e w5 ⟨rfl, q5, rfl⟩
  have HAB' := Lib.hid ((HAB.out.drewN q4).drewN q5)
  have HK5 := Lib.hid ((HK3.out.drewN q4).drewN q5)
  generalize (w3.drewN q4).drewN q5 = w5 at *
  clear HK3 HAB HBL HBR HAL HAR
  obtain ⟨p0, c0, rfl⟩ : ∃ p c, av = .slice p n c := by
    obtain ⟨o1, h1, _⟩ := HAB'.out.left
    obtain ⟨us, hus, _⟩ := h1.fst.lists
    exact hus.slice
  obtain ⟨gh, ch, rfl⟩ : ∃ g c, ah = .slice (some ⟨g, 0, none⟩) size c := by
    obtain ⟨o1, h1, _⟩ := HAB'.out.left
    obtain ⟨o2, ⟨fp, ⟨hr, _⟩, _⟩, _⟩ := h1.right
    obtain ⟨g, c, e, _⟩ := row_out hr (by omega)
    exact ⟨g, c, e⟩
  go_wp2_with fail
  go_loopg [17] n (fun k iv wr => ∃ (i : Nat) (O' : Nat → List Int), i ≤ n ∧ k = n - i ∧ iv = .int .i64 i ∧ (∀ j, (O' j).length = (O j).length) ∧
    Has [] w1 wr (((Part.outs (.slice p0 n c0) n avs O').sep (.row 32 1 (.slice (some ⟨gh, 0, none⟩) size ch) size (cellsRow size (runS n L P (allTaken size) z m).1))).sep ((Part.outs bv n bvs O).sep (.row 32 1 bh size (cellsRow size (runS n L P (allTaken size) z m).1)))))
  case atStart => exact ⟨0, O, Nat.zero_le _, rfl, rfl, fun _ => rfl, HAB'.out⟩
  case round =>
    obtain ⟨i, O1, hi, hk, rfl, hlen, hX⟩ := hrel
    have HKK := Lib.hid hk
    have HX := Lib.hid hX
    have HL := Lib.hid hlen
    clear hk hX hlen
    by_cases hlt : i < n
    · have hd : decide ((i : Int) < (n : Int)) = true := by simp; omega
      have hd' : decide (i < n) = true := by simp; omega
      generalize hl : (O i).length = l at *
      have HLL := Lib.hid hl
      have hl9 : l ≤ 9223372036854775807 := by have := HMX.out i hlt; rw [hl] at this; simp only [maxLen] at this; omega
      clear hl
      go_wp2_with fail
      go_loopg [18] l (fun k iv wx => ∃ (j : Nat) (O' : Nat → List Int), j ≤ l ∧ k = l - j ∧ iv = .int .i64 j ∧ (∀ j, (O' j).length = (O j).length) ∧
        Has [] w1 wx (((Part.outs (.slice p0 n c0) n avs O').sep (.row 32 1 (.slice (some ⟨gh, 0, none⟩) size ch) size (cellsRow size (runS n L P (allTaken size) z m).1))).sep ((Part.outs bv n bvs O).sep (.row 32 1 bh size (cellsRow size (runS n L P (allTaken size) z m).1)))))
      case atStart => exact ⟨0, O1, Nat.zero_le _, rfl, rfl, HL.out, HX.out⟩
      case round =>
        clear HX HL
        obtain ⟨j, O2, hj, hk2, rfl, hlen, hX⟩ := hrel
        have HKJ := Lib.hid hk2
        have hX' := hX.assoc
        have HL := Lib.hid hlen
        have hl2 : (O2 i).length = l := by rw [hlen, HLL.out]
        obtain ⟨gb, gc, hpe, hcell, ⟨pp, pc, hav⟩, hst⟩ := outs_open hX' hlt
        rw [hav, hl2] at hcell
        have HX := Lib.hid hX
        clear hk2 hX hX' hlen
        obtain ⟨rfl, rfl⟩ : p0 = some ⟨gb, 0, none⟩ ∧ c0 = gc := by simpa using hpe
        by_cases hjl : j < l
        · have hd2 : decide ((j : Int) < (l : Int)) = true := by simp; omega
          have hd2' : decide (j < l) = true := by simp; omega
          have hbj : 0 ≤ (j : Int) ∧ (j : Int) < (l : Int) := by omega
          obtain ⟨g, c, he, x0, x1, hset⟩ := hst j (by rw [hl2]; exact hjl)
          obtain ⟨rfl, rfl⟩ : pp = some ⟨g, 0, none⟩ ∧ pc = c := by rw [hav] at he; simpa using he
          have HS := Lib.hid hset
          clear hst hset he hpe hav
          go_wp2_with fail
          go_roundg (l - (j + 1))
          case measure => rw [HKJ.out]; omega
          case rel =>
            refine ⟨j + 1, _, by omega, rfl, by go_num, fun d => ?_, (HS.out 77).assoc'⟩
            show (updF O2 i _ d).length = _
            unfold updF
            by_cases ed : d = i
            · subst ed; simp [HL.out]
            · simp [ed, HL.out]
        · have hd2 : decide ((j : Int) < (l : Int)) = false := by simp; omega
          have hd2' : decide (j < l) = false := by simp; omega
          clear hst
          go_wp2_with fail
          go_roundg (n - (i + 1))
          case measure => rw [HKK.out]; omega
          case rel => exact ⟨i + 1, O2, by omega, rfl, by go_num, HL.out, HX.out⟩
    · have hd : decide ((i : Int) < (n : Int)) = false := by simp; omega
      have hd' : decide (i < n) = false := by simp; omega
      clear hd' 
      go_wp2_with fail
      go_loopg [19] size (fun k iv wx => ∃ (j : Nat) (xs : List Value), j ≤ size ∧ k = size - j ∧ iv = .int .i64 j ∧
        Has [] w1 wx (((Part.outs (.slice p0 n c0) n avs O1).sep (.row 32 1 (.slice (some ⟨gh, 0, none⟩) size ch) size xs)).sep ((Part.outs bv n bvs O).sep (.row 32 1 bh size (cellsRow size (runS n L P (allTaken size) z m).1)))))
      case atStart => exact ⟨0, _, Nat.zero_le _, rfl, rfl, HX.out⟩
      case round =>
        clear HX HL
        obtain ⟨j, xs, hj, hk2, rfl, hX⟩ := hrel
        have HKJ := Lib.hid hk2
        have HX := Lib.hid hX
        clear hk2 hX
        by_cases hjl : j < size
        · have hd2 : decide ((j : Int) < (size : Int)) = true := by simp; omega
          have hd2' : decide (j < size) = true := by simp; omega
          have hbj : 0 ≤ (j : Int) ∧ (j : Int) < (size : Int) := by omega
          obtain ⟨⟨u, x0⟩, x1, hset⟩ := row_put' HX.out hjl
          have HS := Lib.hid hset
          clear hset
          go_wp2_with fail
          go_roundg (size - (j + 1))
          case measure => rw [HKJ.out]; omega
          case rel => exact ⟨j + 1, _, by omega, rfl, by go_num, HS.out (.int .u64 77)⟩
        · have hd2 : decide ((j : Int) < (size : Int)) = false := by simp; omega
          have hd2' : decide (j < size) = false := by simp; omega
          have hkx := HK1.out.tr HX.out.keeps
          have HKX := Lib.hid hkx
          obtain ⟨o5, h5, _⟩ := HX.out.right
          have HWL := Lib.hid h5.fst.lists
          clear hkx h5 HX
          go_wp2_with fail
          refine (run_calls _ (HT.out.kept HKX.out (by simp)) size v pv n L vs P m z (HH.out.kept HKX.out (by simp)) (HP.out.kept HKX.out (by simp)) HOK.out).mono ?_
          rintro e w8 ⟨dv, dh, dvs, rfl, hD⟩
          have HKD := Lib.hid (HKX.out.tr hD.keeps)
          have HWL2 := Lib.hid (HWL.out.kept hD.keeps (by simp))
          have HDL := Lib.hid hD.fst.lists
          rw [HO.out] at HDL
          clear hD HKX HWL
          go_wp2_with fail
          refine (lists_same w8 _ _ n _ _ HDL.out HWL2.out hn9).mono ?_
          rintro e w9 ⟨rfl, q9, rfl⟩
          go_wp2_with fail
          go_ret
          exact ⟨rfl, HKD.out.drewN _⟩

end Go.Proofs.YtfipoadgfebibaaDoor
