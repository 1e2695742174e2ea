/- The walks of a store's other answers: none, full, wrong words; Val, SetState (printed by mkrest11.py). -/
import Derived.Test.YtlaffmdflleeeaaDoorStorePush
import Derived.Test.YtlaffmdflleeeaaDoorStoreForget
import Derived.Test.YtlaffmdflleeeaaDoorStoreDrop
import Derived.Test.YtlaffmdflleeeaaDoorRefCut
namespace Go.Proofs.YtlaffmdflleeeaaDoor
open Go Go.RowKit
set_option linter.unusedVariables false

variable {o : List Nat} {w0 w : World} {b : Nat} {x : StIx} {A : ASt}

theorem StRep.same {S S' : Ar} {C : Cells} {A : ASt} (h : StRep S C A) (h1 : S'.size = S.size) (h2 : S'.steps = S.steps) (h3 : ∀ d, S'.get d = S.get d) : StRep S' C A := by
  have e : S'.get = S.get := funext h3
  exact ⟨h1.trans h.size, h.big, h2.trans h.steps, fun l v hl => by rw [e]; exact h.has l v hl, h.inj, by rw [e, h1]; exact h.count, h.word, h.headLe, h.nextLe⟩

set_option maxHeartbeats 4000000 in
set_option maxRecDepth 100000 in
theorem push_first_not (h : Has o w0 w (.store b A)) (i j : Nat) (u : Int) (hl : A.at_ (.head i) = some (u)) (hj : A.ver j = true) (hne : u ≠ 0) (hV : A.nV ≤ 1000000000) :
    Calls Tryd.prog 17 #[.pointer (some ⟨b, 0, none⟩), .int .i64 ((i : Int) + 1), .int .i64 (0), .int .i64 ((j : Int) + 1)] w fun e w' => e = .returned (.tuple #[.bool false, .int .i64 0]) ∧ Has o w0 w' (.store b (A.step)) := by
  obtain ⟨x, hr, h⟩ := h.stOpen
  have hlt := at_head hl
  have hjl := ver_lt hj
  obtain ⟨g, cap, hvv⟩ := StP.nodeSlice h hlt
  obtain ⟨c0, _, _, _⟩ := StP.fields h
  obtain ⟨c1, _⟩ := StP.nodeCells h hlt hvv
  obtain ⟨gj, capj, hvj⟩ := StP.verSlice h hjl
  have HN := Lib.hid (node_at h i hlt hvv)
  have HJ := Lib.hid (version_at h j hj hvj)
  have HL := Lib.hid (fun (w' : World) (hw : Has o w0 w' (StP b x A)) => stp_cas_not hw hr (.head i) u (0) ((j : Int) + 1) hl hne)
  have HL0 := Lib.hid hl
  have HX := Lib.hid h
  have HR := Lib.hid hr
  have HVV := Lib.hid hvv
  have e2 : IntKind.u64.wrap ((j : Int) + 1) = (j : Int) + 1 := by unfold IntKind.wrap; simp [IntKind.bits, IntKind.signed]; omega
  clear h hr hl hvv hvj hj hne
  go_enter Tryd.func17, Tryd.ntmps17
  go_wp2_with fail
  refine HN.out.mono ?_
  rintro e w' ⟨rfl, rfl⟩
  go_wp2_with fail
  refine HJ.out.mono ?_
  rintro e w' ⟨rfl, rfl⟩
  go_wp2_with fail
  go_region_held3 (fun w' => w'.cell? ⟨b, 0, none⟩ = some (.pointer (some ⟨x.ab, 0, none⟩)) ∧ w'.cell? ⟨g, i * 2, none⟩ = some (.int .i64 ((x.C.n i).1)))
    (first | exact ⟨c0, c1⟩ | exact ⟨d0, d1⟩)
    (first | (go_at_call 40
              refine (HL.out _ (HX.out.quiet ((Kept.refl _ _).drew))).mono ?_
              rintro e w4 ⟨rfl, hX4⟩
              obtain ⟨d0, _, _, _⟩ := StP.fields hX4
              obtain ⟨d1, _⟩ := StP.nodeCells hX4 hlt HVV.out
              have HX4 := Lib.hid hX4
              clear hX4))
  go_wp2_with fail
  go_ret2
  exact ⟨rfl, HX4.out.stShut HR.out.step⟩

set_option maxHeartbeats 4000000 in
set_option maxRecDepth 100000 in
theorem push_over_not (h : Has o w0 w (.store b A)) (i j : Nat) (k : Nat) (hk : A.ver k = true) (u : Int) (hl : A.at_ (.head i) = some (u)) (hj : A.ver j = true) (hne : u ≠ (k : Int) + 1) (hV : A.nV ≤ 1000000000) :
    Calls Tryd.prog 17 #[.pointer (some ⟨b, 0, none⟩), .int .i64 ((i : Int) + 1), .int .i64 ((k : Int) + 1), .int .i64 ((j : Int) + 1)] w fun e w' => e = .returned (.tuple #[.bool false, .int .i64 0]) ∧ Has o w0 w' (.store b (A.step)) := by
  obtain ⟨x, hr, h⟩ := h.stOpen
  have hlt := at_head hl
  have hjl := ver_lt hj
  obtain ⟨g, cap, hvv⟩ := StP.nodeSlice h hlt
  obtain ⟨c0, _, _, _⟩ := StP.fields h
  obtain ⟨c1, _⟩ := StP.nodeCells h hlt hvv
  obtain ⟨gj, capj, hvj⟩ := StP.verSlice h hjl
  have HN := Lib.hid (node_at h i hlt hvv)
  have HJ := Lib.hid (version_at h j hj hvj)
  obtain ⟨gk, capk, hvk⟩ := StP.verSlice h (ver_lt hk)
  have HKV := Lib.hid (version_at h k hk hvk)
  have hkl := ver_lt hk
  have e1 : IntKind.u64.wrap ((k : Int) + 1) = (k : Int) + 1 := by unfold IntKind.wrap; simp [IntKind.bits, IntKind.signed]; omega
  have f1 : decide ((k : Int) + 1 = 0) = false := by simp; omega
  have f2 : ((k : Int) + 1 == 0) = false := by simp; omega
  clear hvk
  have HL := Lib.hid (fun (w' : World) (hw : Has o w0 w' (StP b x A)) => stp_cas_not hw hr (.head i) u ((k : Int) + 1) ((j : Int) + 1) hl hne)
  have HL0 := Lib.hid hl
  have HX := Lib.hid h
  have HR := Lib.hid hr
  have HVV := Lib.hid hvv
  have e2 : IntKind.u64.wrap ((j : Int) + 1) = (j : Int) + 1 := by unfold IntKind.wrap; simp [IntKind.bits, IntKind.signed]; omega
  clear h hr hl hvv hvj hj hne
  go_enter Tryd.func17, Tryd.ntmps17
  go_wp2_with fail
  refine HN.out.mono ?_
  rintro e w' ⟨rfl, rfl⟩
  go_wp2_with fail
  refine HKV.out.mono ?_
  rintro e w' ⟨rfl, rfl⟩
  go_wp2_with fail
  refine HJ.out.mono ?_
  rintro e w' ⟨rfl, rfl⟩
  go_wp2_with fail
  go_region_held3 (fun w' => w'.cell? ⟨b, 0, none⟩ = some (.pointer (some ⟨x.ab, 0, none⟩)) ∧ w'.cell? ⟨g, i * 2, none⟩ = some (.int .i64 ((x.C.n i).1)))
    (first | exact ⟨c0, c1⟩ | exact ⟨d0, d1⟩)
    (first | (go_at_call 40
              refine (HL.out _ (HX.out.quiet ((Kept.refl _ _).drew))).mono ?_
              rintro e w4 ⟨rfl, hX4⟩
              obtain ⟨d0, _, _, _⟩ := StP.fields hX4
              obtain ⟨d1, _⟩ := StP.nodeCells hX4 hlt HVV.out
              have HX4 := Lib.hid hX4
              clear hX4))
  go_wp2_with fail
  go_ret2
  exact ⟨rfl, HX4.out.stShut HR.out.step⟩

set_option maxHeartbeats 2000000 in
set_option maxRecDepth 100000 in
theorem push_none (h : Has o w0 w (.store b A)) (n p q : Int) (hn : A.isN n = false ∨ (p ≠ 0 ∧ A.isV p = false) ∨ A.isV q = false) :
    Calls Tryd.prog 17 #[.pointer (some ⟨b, 0, none⟩), .int .i64 n, .int .i64 p, .int .i64 q] w fun e w' => e = .returned (.tuple #[.bool false, .int .i64 110]) ∧ w' = w := by
  obtain ⟨x, hr, h⟩ := h.stOpen
  have HNN := Lib.hid (none_walk w b)
  by_cases hN : A.isN n = true
  · obtain ⟨i, rfl, hi⟩ := isN_at hN
    obtain ⟨g, cap, hvv⟩ := StP.nodeSlice h hi
    have HN := Lib.hid (node_at h i hi hvv)
    by_cases hp0 : p = 0
    · have hq : A.isV q = false := by
        rcases hn with h1 | ⟨h1, _⟩ | h1
        · rw [hN] at h1; cases h1
        · exact absurd hp0 h1
        · exact h1
      have HQ := Lib.hid (version_no h q (isV_no hq))
      subst hp0
      clear h hr hvv hq hn hN
      go_enter Tryd.func17, Tryd.ntmps17
      go_wp2_with fail
      refine HN.out.mono ?_
      rintro e w' ⟨rfl, rfl⟩
      go_wp2_with fail
      refine HQ.out.mono ?_
      rintro e w' ⟨rfl, rfl⟩
      go_wp2_with fail
      refine HNN.out.mono ?_
      rintro e w' ⟨rfl, rfl⟩
      go_wp2_with fail
      go_ret2
      exact ⟨rfl, rfl⟩
    · have f1 : decide (p = 0) = false := by simpa using hp0
      have f2 : (p == 0) = false := by simpa using hp0
      have f3 : (p != 0) = true := by simpa using hp0
      by_cases hP : A.isV p = true
      · obtain ⟨k, rfl, hk⟩ := isV_at hP
        obtain ⟨g2, cap2, hv2⟩ := StP.verSlice h (ver_lt hk)
        have HP := Lib.hid (version_at h k hk hv2)
        have hq : A.isV q = false := by
          rcases hn with h1 | ⟨_, h1⟩ | h1
          · rw [hN] at h1; cases h1
          · rw [hP] at h1; cases h1
          · exact h1
        have HQ := Lib.hid (version_no h q (isV_no hq))
        clear h hr hvv hv2 hq hn hN hP
        go_enter Tryd.func17, Tryd.ntmps17
        go_wp2_with fail
        refine HN.out.mono ?_
        rintro e w' ⟨rfl, rfl⟩
        go_wp2_with fail
        refine HP.out.mono ?_
        rintro e w' ⟨rfl, rfl⟩
        go_wp2_with fail
        refine HQ.out.mono ?_
        rintro e w' ⟨rfl, rfl⟩
        go_wp2_with fail
        refine HNN.out.mono ?_
        rintro e w' ⟨rfl, rfl⟩
        go_wp2_with fail
        go_ret2
        exact ⟨rfl, rfl⟩
      · have hP' : A.isV p = false := by simpa using hP
        have HP := Lib.hid (version_no h p (isV_no hP'))
        clear h hr hvv hn hN hP hP'
        go_enter Tryd.func17, Tryd.ntmps17
        go_wp2_with fail
        refine HN.out.mono ?_
        rintro e w' ⟨rfl, rfl⟩
        go_wp2_with fail
        refine HP.out.mono ?_
        rintro e w' ⟨rfl, rfl⟩
        go_wp2_with fail
        refine HNN.out.mono ?_
        rintro e w' ⟨rfl, rfl⟩
        go_wp2_with fail
        go_ret2
        exact ⟨rfl, rfl⟩
  · have hN' : A.isN n = false := by simpa using hN
    have HN := Lib.hid (node_no h n (isN_no hN'))
    clear h hr hn hN hN'
    go_enter Tryd.func17, Tryd.ntmps17
    go_wp2_with fail
    refine HN.out.mono ?_
    rintro e w' ⟨rfl, rfl⟩
    go_wp2_with fail
    refine HNN.out.mono ?_
    rintro e w' ⟨rfl, rfl⟩
    go_wp2_with fail
    go_ret2
    exact ⟨rfl, rfl⟩

set_option maxHeartbeats 2000000 in
set_option maxRecDepth 100000 in
theorem forget_none (h : Has o w0 w (.store b A)) (n : Int) (hn : A.isT n = false) :
    Calls Tryd.prog 23 #[.pointer (some ⟨b, 0, none⟩), .int .i64 n] w fun e w' => e = .returned (.int .i64 110) ∧ w' = w := by
  obtain ⟨x, hr, h⟩ := h.stOpen
  have HV := Lib.hid (txn_no h n (isT_no hn))
  have HN := Lib.hid (none_walk w b)
  clear h hr hn
  go_enter Tryd.func23, Tryd.ntmps23
  go_wp2_with fail
  refine HV.out.mono ?_
  rintro e w' ⟨rfl, rfl⟩
  go_wp2_with fail
  refine HN.out.mono ?_
  rintro e w' ⟨rfl, rfl⟩
  go_wp2_with fail
  go_ret
  exact ⟨rfl, rfl⟩

set_option maxHeartbeats 2000000 in
set_option maxRecDepth 100000 in
theorem cut_none (h : Has o w0 w (.store b A)) (n : Int) (hn : A.isV n = false) :
    Calls Tryd.prog 19 #[.pointer (some ⟨b, 0, none⟩), .int .i64 n] w fun e w' => e = .returned (.tuple #[.int .i64 0, .int .i64 110]) ∧ w' = w := by
  obtain ⟨x, hr, h⟩ := h.stOpen
  have HV := Lib.hid (version_no h n (isV_no hn))
  have HN := Lib.hid (none_walk w b)
  clear h hr hn
  go_enter Tryd.func19, Tryd.ntmps19
  go_wp2_with fail
  refine HV.out.mono ?_
  rintro e w' ⟨rfl, rfl⟩
  go_wp2_with fail
  refine HN.out.mono ?_
  rintro e w' ⟨rfl, rfl⟩
  go_wp2_with fail
  go_ret2
  exact ⟨rfl, rfl⟩

set_option maxHeartbeats 2000000 in
set_option maxRecDepth 100000 in
theorem drop_none (h : Has o w0 w (.store b A)) (n : Int) (hn : A.isN n = false) :
    Calls Tryd.prog 20 #[.pointer (some ⟨b, 0, none⟩), .int .i64 n] w fun e w' => e = .returned (.int .i64 110) ∧ w' = w := by
  obtain ⟨x, hr, h⟩ := h.stOpen
  have HV := Lib.hid (node_no h n (isN_no hn))
  have HN := Lib.hid (none_walk w b)
  clear h hr hn
  go_enter Tryd.func20, Tryd.ntmps20
  go_wp2_with fail
  refine HV.out.mono ?_
  rintro e w' ⟨rfl, rfl⟩
  go_wp2_with fail
  refine HN.out.mono ?_
  rintro e w' ⟨rfl, rfl⟩
  go_wp2_with fail
  go_ret
  exact ⟨rfl, rfl⟩

set_option maxHeartbeats 2000000 in
set_option maxRecDepth 100000 in
theorem val_none (h : Has o w0 w (.store b A)) (n : Int) (hn : A.isV n = false) :
    Calls Tryd.prog 28 #[.pointer (some ⟨b, 0, none⟩), .int .i64 n] w fun e w' => e = .returned (.tuple #[.string default, .int .i64 110]) ∧ w' = w := by
  obtain ⟨x, hr, h⟩ := h.stOpen
  have HV := Lib.hid (version_no h n (isV_no hn))
  have HN := Lib.hid (none_walk w b)
  clear h hr hn
  go_enter Tryd.func28, Tryd.ntmps28
  go_wp2_with fail
  refine HV.out.mono ?_
  rintro e w' ⟨rfl, rfl⟩
  go_wp2_with fail
  refine HN.out.mono ?_
  rintro e w' ⟨rfl, rfl⟩
  go_wp2_with fail
  go_ret2
  exact ⟨rfl, rfl⟩

set_option maxHeartbeats 2000000 in
set_option maxRecDepth 100000 in
theorem setState_none (h : Has o w0 w (.store b A)) (n : Int) (q : Int) (hn : A.isT n = false) :
    Calls Tryd.prog 27 #[.pointer (some ⟨b, 0, none⟩), .int .i64 n, .int .u64 q] w fun e w' => e = .returned (.int .i64 110) ∧ w' = w := by
  obtain ⟨x, hr, h⟩ := h.stOpen
  have HV := Lib.hid (txn_no h n (isT_no hn))
  have HN := Lib.hid (none_walk w b)
  clear h hr hn
  go_enter Tryd.func27, Tryd.ntmps27
  go_wp2_with fail
  refine HV.out.mono ?_
  rintro e w' ⟨rfl, rfl⟩
  go_wp2_with fail
  refine HN.out.mono ?_
  rintro e w' ⟨rfl, rfl⟩
  go_wp2_with fail
  go_ret
  exact ⟨rfl, rfl⟩

set_option maxHeartbeats 2000000 in
set_option maxRecDepth 100000 in
theorem Chain_none (h : Has o w0 w (.store b A)) (n : Int) (hn : A.isN n = false) :
    Calls Tryd.prog 18 #[.pointer (some ⟨b, 0, none⟩), .int .i64 n] w fun e w' => e = .returned (.slice none 0 0) ∧ w' = w := by
  obtain ⟨x, hr, h⟩ := h.stOpen
  have HV := Lib.hid (node_no h n (isN_no hn))
  clear h hr hn
  go_enter Tryd.func18, Tryd.ntmps18
  go_wp2_with fail
  refine HV.out.mono ?_
  rintro e w' ⟨rfl, rfl⟩
  go_wp2_with fail
  go_ret
  exact ⟨rfl, rfl⟩

set_option maxHeartbeats 2000000 in
set_option maxRecDepth 100000 in
theorem drop_empty (h : Has o w0 w (.store b A)) (i : Nat) (v : Int) (hh : A.at_ (.head i) = some v) (hv : A.isV v = false) (hV : A.nV ≤ 1000000000) :
    Calls Tryd.prog 20 #[.pointer (some ⟨b, 0, none⟩), .int .i64 ((i : Int) + 1)] w fun e w' => e = .returned (.int .i64 110) ∧ Has o w0 w' (.store b A.step) := by
  obtain ⟨x, hr, h⟩ := h.stOpen
  have hin := at_head hh
  obtain ⟨gn, capn, hnv⟩ := StP.nodeSlice h hin
  obtain ⟨c0, _, _, _⟩ := StP.fields h
  obtain ⟨c1, _⟩ := StP.nodeCells h hin hnv
  have hw9 := hr.word _ v hh
  have hle := hr.headLe i v hh
  have HN := Lib.hid (node_at h i hin hnv)
  have HNN := Lib.hid (fun W => none_walk W b)
  have HL := Lib.hid (fun (w' : World) (hw : Has o w0 w' (StP b x A)) => stp_load hw hr (.head i) _ hh)
  have HX := Lib.hid h
  have HR := Lib.hid hr
  have HNV := Lib.hid hnv
  have HVN := Lib.hid (isV_no hv)
  have e9 : IntKind.i64.wrap v = v := by unfold IntKind.wrap; simp [IntKind.bits, IntKind.signed]; omega
  clear h hr hh hnv hv
  go_enter Tryd.func20, Tryd.ntmps20
  go_wp2_with fail
  refine HN.out.mono ?_
  rintro e w' ⟨rfl, rfl⟩
  go_wp2_with fail
  go_region_held3 (fun w' => w'.cell? ⟨b, 0, none⟩ = some (.pointer (some ⟨x.ab, 0, none⟩)) ∧ w'.cell? ⟨gn, i * 2, none⟩ = some (.int .i64 ((x.C.n i).1)))
    (first | exact ⟨c0, c1⟩ | exact ⟨d0, d1⟩)
    (first | (go_at_call 41
              refine (HL.out _ (HX.out.quiet ((Kept.refl _ _).drew))).mono ?_
              rintro e w4 ⟨rfl, hX4⟩
              obtain ⟨d0, _, _, _⟩ := StP.fields hX4
              obtain ⟨d1, _⟩ := StP.nodeCells hX4 hin HNV.out
              have HX4 := Lib.hid hX4
              clear hX4))
  have HV := Lib.hid (version_no HX4.out v HVN.out)
  go_wp2_with fail
  refine HV.out.mono ?_
  rintro e w5 ⟨rfl, rfl⟩
  go_wp2_with fail
  refine (HNN.out _).mono ?_
  rintro e w6 ⟨rfl, rfl⟩
  go_wp2_with fail
  go_ret
  exact ⟨rfl, HX4.out.stShut HR.out.step⟩

set_option maxHeartbeats 2000000 in
set_option maxRecDepth 100000 in
theorem val_at (h : Has o w0 w (.store b A)) (i : Nat) (hver : A.ver i = true) :
    Calls Tryd.prog 28 #[.pointer (some ⟨b, 0, none⟩), .int .i64 ((i : Int) + 1)] w fun e w' => e = .returned (.tuple #[.string (A.V i).val, .int .i64 0]) ∧ w' = w := by
  obtain ⟨x, hr, h⟩ := h.stOpen
  have hlt := ver_lt hver
  obtain ⟨g, cap, hvv⟩ := StP.verSlice h hlt
  have HV := Lib.hid (version_at h i hver hvv)
  obtain ⟨o2, h2⟩ := StP.vers h
  obtain ⟨g2, cap2, e2, hc, _⟩ := h2.rowsAt (verF_len _ _) hlt
  rw [hvv] at e2
  obtain ⟨rfl, rfl⟩ : g = g2 ∧ cap = cap2 := by simpa using e2
  have c1 : w.cell? ⟨g, i * 5, none⟩ = some (.string (A.V i).val) := hc 0 _ rfl
  generalize (A.V i).val = val at *
  clear h hr hvv h2 hc e2 hver
  go_enter Tryd.func28, Tryd.ntmps28
  go_wp2_with fail
  refine HV.out.mono ?_
  rintro e w' ⟨rfl, rfl⟩
  go_wp2_with fail
  go_ret2
  exact ⟨rfl, rfl⟩

set_option maxHeartbeats 2000000 in
set_option maxRecDepth 100000 in
theorem setState_bad (h : Has o w0 w (.store b A)) (i : Nat) (u q : Int) (hl : A.at_ (.state i) = some u) (hq0 : 0 ≤ q) (hq1 : q < 18446744073709551616) (hq : uOk q = false) :
    Calls Tryd.prog 27 #[.pointer (some ⟨b, 0, none⟩), .int .i64 ((i : Int) + 1), .int .u64 q] w fun e w' => e = .returned (.int .i64 50) ∧ w' = w := by
  obtain ⟨x, hr, h⟩ := h.stOpen
  have htx := at_state hl
  have hlt := txn_lt htx
  obtain ⟨g, cap, hvv⟩ := StP.txnSlice h hlt
  obtain ⟨c0, _, _, _⟩ := StP.fields h
  obtain ⟨c1, _⟩ := StP.txnCells h hlt hvv
  have HV := Lib.hid (txn_at h i htx hvv)
  have HX := Lib.hid h
  have HR := Lib.hid hr
  have HVV := Lib.hid hvv
  have HC := Lib.hid (fun W => unstate_walk W q hq0 hq1)
  rw [hq] at HC
  have HL := Lib.hid (fun (w' : World) (hw : Has o w0 w' (StP b x A)) => stp_store hw hr (.state i) u q hl)
  have HL0 := Lib.hid hl
  clear h hr hl hvv hq htx
  go_enter Tryd.func27, Tryd.ntmps27
  go_wp2_with fail
  refine HV.out.mono ?_
  rintro e w' ⟨rfl, rfl⟩
  go_wp2_with fail
  refine (HC.out _).mono ?_
  rintro e w' ⟨u1, u2, rfl, rfl⟩
  go_wp2_with fail
  go_ret
  exact ⟨rfl, rfl⟩

set_option maxHeartbeats 2000000 in
set_option maxRecDepth 100000 in
theorem setState_at (h : Has o w0 w (.store b A)) (i : Nat) (u q : Int) (hl : A.at_ (.state i) = some u) (hq0 : 0 ≤ q) (hq1 : q < 18446744073709551616) (hq : uOk q = true) :
    Calls Tryd.prog 27 #[.pointer (some ⟨b, 0, none⟩), .int .i64 ((i : Int) + 1), .int .u64 q] w fun e w' => e = .returned (.int .i64 0) ∧ Has o w0 w' (.store b (A.step.set (.state i) q)) := by
  obtain ⟨x, hr, h⟩ := h.stOpen
  have htx := at_state hl
  have hlt := txn_lt htx
  obtain ⟨g, cap, hvv⟩ := StP.txnSlice h hlt
  obtain ⟨c0, _, _, _⟩ := StP.fields h
  obtain ⟨c1, _⟩ := StP.txnCells h hlt hvv
  have HV := Lib.hid (txn_at h i htx hvv)
  have HX := Lib.hid h
  have HR := Lib.hid hr
  have HVV := Lib.hid hvv
  have HC := Lib.hid (fun W => unstate_walk W q hq0 hq1)
  rw [hq] at HC
  have HL := Lib.hid (fun (w' : World) (hw : Has o w0 w' (StP b x A)) => stp_store hw hr (.state i) u q hl)
  have HL0 := Lib.hid hl
  clear h hr hl hvv hq htx
  go_enter Tryd.func27, Tryd.ntmps27
  go_wp2_with fail
  refine HV.out.mono ?_
  rintro e w' ⟨rfl, rfl⟩
  go_wp2_with fail
  refine (HC.out _).mono ?_
  rintro e w' ⟨u1, u2, rfl, rfl⟩
  go_wp2_with fail
  go_region_held3 (fun w' => w'.cell? ⟨b, 0, none⟩ = some (.pointer (some ⟨x.ab, 0, none⟩)) ∧ w'.cell? ⟨g, i * 2, none⟩ = some (.int .i64 (x.C.t i)))
    (first | exact ⟨c0, c1⟩ | exact ⟨d0, d1⟩)
    (first | (go_at_call 44
              refine (HL.out _ (HX.out.quiet ((Kept.refl _ _).drew))).mono ?_
              rintro e w4 ⟨rfl, hX4⟩
              obtain ⟨d0, _, _, _⟩ := StP.fields hX4
              obtain ⟨d1, _⟩ := StP.txnCells hX4 hlt HVV.out
              have HX4 := Lib.hid hX4
              clear hX4))
  go_wp2_with fail
  go_ret
  exact ⟨rfl, HX4.out.stShut (HR.out.step.put (l := .state i) (u := u) HL0.out ⟨hq0, hq1⟩ (fun _ e => by cases e) (fun _ e => by cases e))⟩

set_option maxHeartbeats 2000000 in
set_option maxRecDepth 100000 in
theorem node_full (h : Has o w0 w (.store b A)) (hT : TabAt w0) (ho : 0 ∉ o) (hfull : A.size < A.used + 2) :
    Calls Tryd.prog 16 #[.pointer (some ⟨b, 0, none⟩)] w fun e w' => e = .returned (.tuple #[.int .i64 0, .int .i64 31]) ∧ Has o w0 w' (.store b A) := by
  have hfit := h.stOk.fit
  obtain ⟨x, hr, h⟩ := h.stOpen
  have h2 := h.beside (wordsMade (w := w) #[.int .u64 0, .int .u64 0] (fun _ => 0) 2 rfl (fun i hi => match i, hi with | 0, _ => rfl | 1, _ => rfl))
  have HTK := Lib.hid (take_full h2 hT ho (by omega) (by rw [hr.count, hr.size]; exact hfit) (by rw [hr.count, hr.size]; exact hfull))
  have HR := Lib.hid hr
  clear h h2 hr hT ho hfull hfit
  go_enter Tryd.func16, Tryd.ntmps16
  go_wp2_with fail
  refine HTK.out.mono ?_
  rintro e w2 ⟨S', rfl, h1, h2, h3, hX⟩
  have HRN := Lib.hid (HR.out.same h1 h2 h3)
  have HX := Lib.hid hX
  clear hX h1 h2 h3
  go_wp2_with fail
  go_ret2
  exact ⟨rfl, HX.out.stShut (x := { x with S := S' }) HRN.out⟩

set_option maxHeartbeats 2000000 in
set_option maxRecDepth 100000 in
theorem txn_full (h : Has o w0 w (.store b A)) (hT : TabAt w0) (ho : 0 ∉ o) (hT9 : (A.nT : Int) + 1 < 1048576) (hfull : A.size < A.used + 1) :
    Calls Tryd.prog 22 #[.pointer (some ⟨b, 0, none⟩)] w fun e w' => e = .returned (.tuple #[.int .i64 0, .int .i64 31]) ∧ Has o w0 w' (.store b A) := by
  have hfit := h.stOk.fit
  obtain ⟨x, hr, h⟩ := h.stOpen
  obtain ⟨_, _, _, y9⟩ := StP.fields h
  obtain ⟨o9, h9⟩ := StP.txns h
  obtain ⟨tp, tc, htv⟩ := h9.rowsSlice
  rw [htv] at y9
  have d1 : decide ((A.nT : Int) + 1 ≥ 1048576) = false := by simp; omega
  have h2 := h.beside (wordsMade (w := w) #[.int .u64 0] (fun _ => 0) 1 rfl (fun i hi => match i, hi with | 0, _ => rfl))
  have HTK := Lib.hid (take_full h2 hT ho (by omega) (by rw [hr.count, hr.size]; exact hfit) (by rw [hr.count, hr.size]; exact hfull))
  have HR := Lib.hid hr
  clear h9 htv
  clear h h2 hr hT ho hfull hfit
  go_enter Tryd.func22, Tryd.ntmps22
  go_wp2_with fail
  refine HTK.out.mono ?_
  rintro e w2 ⟨S', rfl, h1, h2, h3, hX⟩
  have HRN := Lib.hid (HR.out.same h1 h2 h3)
  have HX := Lib.hid hX
  clear hX h1 h2 h3
  go_wp2_with fail
  go_ret2
  exact ⟨rfl, HX.out.stShut (x := { x with S := S' }) HRN.out⟩

set_option maxHeartbeats 2000000 in
set_option maxRecDepth 100000 in
theorem txn_many (h : Has o w0 w (.store b A)) (hT9 : 1048576 ≤ (A.nT : Int) + 1) (hT8 : A.nT ≤ 1000000000) :
    Calls Tryd.prog 22 #[.pointer (some ⟨b, 0, none⟩)] w fun e w' => e = .returned (.tuple #[.int .i64 0, .int .i64 31]) ∧ w' = w := by
  obtain ⟨x, hr, h⟩ := h.stOpen
  obtain ⟨_, _, _, y9⟩ := StP.fields h
  obtain ⟨o9, h9⟩ := StP.txns h
  obtain ⟨tp, tc, htv⟩ := h9.rowsSlice
  rw [htv] at y9
  have d1 : decide ((A.nT : Int) + 1 ≥ 1048576) = true := by simp; omega
  clear h hr h9 htv
  go_enter Tryd.func22, Tryd.ntmps22
  go_wp2_with fail
  go_ret2
  exact ⟨rfl, rfl⟩

set_option maxHeartbeats 2000000 in
set_option maxRecDepth 100000 in
theorem version_full0 (h : Has o w0 w (.store b A)) (hT : TabAt w0) (ho : 0 ∉ o) (val : ByteArray) (bg : Int) (hval : val.size ≤ 64) (hb0 : 0 ≤ bg) (hb1 : bg < 18446744073709551616) (hbg : wBegins bg = true) (hfull : A.size < A.used + 3) :
    Calls Tryd.prog 12 #[.pointer (some ⟨b, 0, none⟩), .string val, .int .u64 bg, .int .i64 0] w fun e w' => e = .returned (.tuple #[.int .i64 0, .int .i64 31]) ∧ Has o w0 w' (.store b A) := by
  have hfit := h.stOk.fit
  obtain ⟨x, hr, h⟩ := h.stOpen
  have d1 : decide ((val.size : Int) > 64) = false := by simp; omega
  have d1' : decide (val.size > 64) = false := by simp; omega
  have HBW := begins_walk w bg hb0 hb1
  rw [hbg] at HBW
  have HBW := Lib.hid HBW
  have h2 := h.beside (wordsMade (w := w) #[.int .u64 bg, .int .u64 1099511627776, .int .u64 0] (verW bg 0) 3 rfl (fun i hi => match i, hi with | 0, _ => rfl | 1, _ => rfl | 2, _ => rfl))
  have HTK := Lib.hid (take_full h2 hT ho (by omega) (by rw [hr.count, hr.size]; exact hfit) (by rw [hr.count, hr.size]; exact hfull))
  have HR := Lib.hid hr
  clear hbg
  clear h h2 hr hT ho hfull hfit
  go_enter Tryd.func12, Tryd.ntmps12
  go_wp2_with fail
  refine HBW.out.mono ?_
  rintro e w' ⟨rfl, rfl⟩
  go_wp2_with fail
  refine HTK.out.mono ?_
  rintro e w2 ⟨S', rfl, h1, h2, h3, hX⟩
  have HRN := Lib.hid (HR.out.same h1 h2 h3)
  have HX := Lib.hid hX
  clear hX h1 h2 h3
  go_wp2_with fail
  go_ret2
  exact ⟨rfl, HX.out.stShut (x := { x with S := S' }) HRN.out⟩

set_option maxHeartbeats 2000000 in
set_option maxRecDepth 100000 in
theorem version_fullN (h : Has o w0 w (.store b A)) (hT : TabAt w0) (ho : 0 ∉ o) (val : ByteArray) (bg : Int) (hval : val.size ≤ 64) (hb0 : 0 ≤ bg) (hb1 : bg < 18446744073709551616) (hbg : wBegins bg = true) {j : Nat} (hj : A.ver j = true) (hV9 : A.nV ≤ 1000000000) (hfull : A.size < A.used + 3) :
    Calls Tryd.prog 12 #[.pointer (some ⟨b, 0, none⟩), .string val, .int .u64 bg, .int .i64 ((j : Int) + 1)] w fun e w' => e = .returned (.tuple #[.int .i64 0, .int .i64 31]) ∧ Has o w0 w' (.store b A) := by
  have hfit := h.stOk.fit
  obtain ⟨x, hr, h⟩ := h.stOpen
  have d1 : decide ((val.size : Int) > 64) = false := by simp; omega
  have d1' : decide (val.size > 64) = false := by simp; omega
  have HBW := begins_walk w bg hb0 hb1
  rw [hbg] at HBW
  have HBW := Lib.hid HBW
  obtain ⟨g0, cap0, hvv0⟩ := StP.verSlice h (ver_lt hj)
  have HV := Lib.hid (version_at h j hj hvv0)
  have hjl := ver_lt hj
  have e1 : IntKind.u64.wrap ((j : Int) + 1) = (j : Int) + 1 := by unfold IntKind.wrap; simp [IntKind.bits, IntKind.signed]; omega
  have f1 : decide ((j : Int) + 1 = 0) = false := by simp; omega
  have f2 : ((j : Int) + 1 == 0) = false := by simp; omega
  clear hvv0
  have h2 := h.beside (wordsMade (w := w) #[.int .u64 bg, .int .u64 1099511627776, .int .u64 ((j : Int) + 1)] (verW bg ((j : Int) + 1)) 3 rfl (fun i hi => match i, hi with | 0, _ => rfl | 1, _ => rfl | 2, _ => rfl))
  have HTK := Lib.hid (take_full h2 hT ho (by omega) (by rw [hr.count, hr.size]; exact hfit) (by rw [hr.count, hr.size]; exact hfull))
  have HR := Lib.hid hr
  clear hbg
  clear h h2 hr hT ho hfull hfit
  go_enter Tryd.func12, Tryd.ntmps12
  go_wp2_with fail
  refine HBW.out.mono ?_
  rintro e w' ⟨rfl, rfl⟩
  go_wp2_with fail
  refine HV.out.mono ?_
  rintro e w' ⟨rfl, rfl⟩
  go_wp2_with fail
  refine HTK.out.mono ?_
  rintro e w2 ⟨S', rfl, h1, h2, h3, hX⟩
  have HRN := Lib.hid (HR.out.same h1 h2 h3)
  have HX := Lib.hid hX
  clear hX h1 h2 h3
  go_wp2_with fail
  go_ret2
  exact ⟨rfl, HX.out.stShut (x := { x with S := S' }) HRN.out⟩

set_option maxHeartbeats 2000000 in
set_option maxRecDepth 100000 in
theorem version_word (w : World) (b : Nat) (val : ByteArray) (bg : Int) (hval : val.size ≤ 64) (hb0 : 0 ≤ bg) (hb1 : bg < 18446744073709551616) (hbg : wBegins bg = false) (nx : Int) :
    Calls Tryd.prog 12 #[.pointer (some ⟨b, 0, none⟩), .string val, .int .u64 bg, .int .i64 nx] w fun e w' => e = .returned (.tuple #[.int .i64 0, .int .i64 50]) ∧ w' = w := by
  have d1 : decide ((val.size : Int) > 64) = false := by simp; omega
  have d1' : decide (val.size > 64) = false := by simp; omega
  have HBW := begins_walk w bg hb0 hb1
  rw [hbg] at HBW
  have HBW := Lib.hid HBW
  clear hbg
  go_enter Tryd.func12, Tryd.ntmps12
  go_wp2_with fail
  refine HBW.out.mono ?_
  rintro e w' ⟨rfl, rfl⟩
  go_wp2_with fail
  go_ret2
  exact ⟨rfl, rfl⟩

set_option maxHeartbeats 2000000 in
set_option maxRecDepth 100000 in
theorem version_none (h : Has o w0 w (.store b A)) (val : ByteArray) (bg : Int) (hval : val.size ≤ 64) (hb0 : 0 ≤ bg) (hb1 : bg < 18446744073709551616) (hbg : wBegins bg = true) (nx : Int) (hn0 : nx ≠ 0) (hn : A.isV nx = false) :
    Calls Tryd.prog 12 #[.pointer (some ⟨b, 0, none⟩), .string val, .int .u64 bg, .int .i64 nx] w fun e w' => e = .returned (.tuple #[.int .i64 0, .int .i64 110]) ∧ w' = w := by
  obtain ⟨x, hr, h⟩ := h.stOpen
  have HV := Lib.hid (version_no h nx (isV_no hn))
  have d1 : decide ((val.size : Int) > 64) = false := by simp; omega
  have d1' : decide (val.size > 64) = false := by simp; omega
  have HBW := begins_walk w bg hb0 hb1
  rw [hbg] at HBW
  have HBW := Lib.hid HBW
  have f1 : decide (nx = 0) = false := by simpa using hn0
  have f2 : (nx == 0) = false := by simpa using hn0
  have f3 : (nx != 0) = true := by simpa using hn0
  clear hbg h hr hn
  go_enter Tryd.func12, Tryd.ntmps12
  go_wp2_with fail
  refine HBW.out.mono ?_
  rintro e w' ⟨rfl, rfl⟩
  go_wp2_with fail
  refine HV.out.mono ?_
  rintro e w' ⟨rfl, rfl⟩
  go_wp2_with fail
  go_ret2
  exact ⟨rfl, rfl⟩

end Go.Proofs.YtlaffmdflleeeaaDoor
