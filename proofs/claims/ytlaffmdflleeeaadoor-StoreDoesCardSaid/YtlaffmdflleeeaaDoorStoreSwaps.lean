/- The walks of a store's stores and swaps. -/
import Derived.Test.YtlaffmdflleeeaaDoorStoreOps
import Derived.Test.YtlaffmdflleeeaaDoorWord
import Derived.Deep.RegionHeld3
namespace Go.Proofs.YtlaffmdflleeeaaDoor
open Go Go.RowKit
set_option linter.unusedVariables false

variable {o : List Nat} {w0 w : World} {b : Nat} {A : ASt}

set_option maxHeartbeats 2000000 in
set_option maxRecDepth 100000 in
theorem takeEnd_no (h : Has o w0 w (.store b A)) (n : Int) (hn : ∀ i : Nat, n = (i : Int) + 1 → A.ver i = false) (p q : Int) :
    Calls Tryd.prog 14 #[.pointer (some ⟨b, 0, none⟩), .int .i64 n, .int .u64 p, .int .u64 q] w fun e w' => e = .returned (.tuple #[.bool false, .int .i64 110]) ∧ w' = w := by
  obtain ⟨x, hr, h⟩ := h.stOpen
  have HV := Lib.hid (version_no h n hn)
  have HN := Lib.hid (none_walk w b)
  clear h hr hn
  go_enter Tryd.func14, Tryd.ntmps14
  go_wp2_with fail
  refine HV.out.mono ?_
  rintro e w' ⟨rfl, rfl⟩
  go_wp2_with fail
  refine HN.out.mono ?_
  rintro e w' ⟨rfl, rfl⟩
  go_wp2_with fail
  go_ret2
  exact ⟨rfl, rfl⟩

set_option maxHeartbeats 2000000 in
set_option maxRecDepth 100000 in
theorem takeEnd_bad (h : Has o w0 w (.store b A)) (i : Nat) (u p q : Int) (hl : A.at_ (.end_ i) = some u) (hq0 : 0 ≤ q) (hq1 : q < 18446744073709551616) (hq : wOk q = false) :
    Calls Tryd.prog 14 #[.pointer (some ⟨b, 0, none⟩), .int .i64 ((i : Int) + 1), .int .u64 p, .int .u64 q] w fun e w' => e = .returned (.tuple #[.bool false, .int .i64 50]) ∧ w' = w := by
  obtain ⟨x, hr, h⟩ := h.stOpen
  have hlt := ver_lt (at_end hl)
  obtain ⟨g, cap, hvv⟩ := StP.verSlice h hlt
  obtain ⟨c0, _, _, _⟩ := StP.fields h
  obtain ⟨_, _, c1, _⟩ := StP.verCells h hlt hvv
  have HV := Lib.hid (version_at h i (at_end hl) hvv)
  have HX := Lib.hid h
  have HR := Lib.hid hr
  have HVV := Lib.hid hvv
  have HC := Lib.hid (fun W => parts_walk W q hq0 hq1)
  rw [hq] at HC
  clear h hr hl hvv hq
  go_enter Tryd.func14, Tryd.ntmps14
  go_wp2_with fail
  refine HV.out.mono ?_
  rintro e w' ⟨rfl, rfl⟩
  go_wp2_with fail
  refine (HC.out _).mono ?_
  rintro e w' ⟨rfl, rfl⟩
  go_wp2_with fail
  go_ret2
  exact ⟨rfl, rfl⟩

set_option maxHeartbeats 2000000 in
set_option maxRecDepth 100000 in
theorem takeEnd_yes (h : Has o w0 w (.store b A)) (i : Nat) (p q : Int) (hl : A.at_ (.end_ i) = some p) (hq0 : 0 ≤ q) (hq1 : q < 18446744073709551616) (hq : wOk q = true) :
    Calls Tryd.prog 14 #[.pointer (some ⟨b, 0, none⟩), .int .i64 ((i : Int) + 1), .int .u64 p, .int .u64 q] w fun e w' => e = .returned (.tuple #[.bool true, .int .i64 0]) ∧ Has o w0 w' (.store b (A.step.set (.end_ i) q)) := by
  obtain ⟨x, hr, h⟩ := h.stOpen
  have hlt := ver_lt (at_end hl)
  obtain ⟨g, cap, hvv⟩ := StP.verSlice h hlt
  obtain ⟨c0, _, _, _⟩ := StP.fields h
  obtain ⟨_, _, c1, _⟩ := StP.verCells h hlt hvv
  have HV := Lib.hid (version_at h i (at_end hl) hvv)
  have HX := Lib.hid h
  have HR := Lib.hid hr
  have HVV := Lib.hid hvv
  have HC := Lib.hid (fun W => parts_walk W q hq0 hq1)
  rw [hq] at HC
  have HL := Lib.hid (fun (w' : World) (hw : Has o w0 w' (StP b x A)) => stp_cas hw hr (.end_ i) p q hl)
  have HL0 := Lib.hid hl
  clear h hr hl hvv hq
  go_enter Tryd.func14, Tryd.ntmps14
  go_wp2_with fail
  refine HV.out.mono ?_
  rintro e w' ⟨rfl, rfl⟩
  go_wp2_with fail
  refine (HC.out _).mono ?_
  rintro e w' ⟨rfl, rfl⟩
  go_wp2_with fail
  go_region_held3 (fun w' => w'.cell? ⟨b, 0, none⟩ = some (.pointer (some ⟨x.ab, 0, none⟩)) ∧ w'.cell? ⟨g, i * 5 + 2, none⟩ = some (.int .i64 ((x.C.v i).2.1)))
    (first | exact ⟨c0, c1⟩ | exact ⟨d0, d1⟩)
    (first | (go_at_call 40
              refine (HL.out _ (HX.out.quiet ((Kept.refl _ _).drew))).mono ?_
              rintro e w4 ⟨rfl, hX4⟩
              obtain ⟨d0, _, _, _⟩ := StP.fields hX4
              obtain ⟨_, _, d1, _⟩ := StP.verCells hX4 hlt HVV.out
              have HX4 := Lib.hid hX4
              clear hX4))
  go_wp2_with fail
  go_ret2
  exact ⟨rfl, HX4.out.stShut (HR.out.step.put (l := .end_ i) (u := p) HL0.out ⟨hq0, hq1⟩ (fun _ e => by cases e) (fun _ e => by cases e))⟩

set_option maxHeartbeats 2000000 in
set_option maxRecDepth 100000 in
theorem takeEnd_not (h : Has o w0 w (.store b A)) (i : Nat) (u p q : Int) (hl : A.at_ (.end_ i) = some u) (hne : u ≠ p) (hq0 : 0 ≤ q) (hq1 : q < 18446744073709551616) (hq : wOk q = true) :
    Calls Tryd.prog 14 #[.pointer (some ⟨b, 0, none⟩), .int .i64 ((i : Int) + 1), .int .u64 p, .int .u64 q] w fun e w' => e = .returned (.tuple #[.bool false, .int .i64 0]) ∧ Has o w0 w' (.store b A.step) := by
  obtain ⟨x, hr, h⟩ := h.stOpen
  have hlt := ver_lt (at_end hl)
  obtain ⟨g, cap, hvv⟩ := StP.verSlice h hlt
  obtain ⟨c0, _, _, _⟩ := StP.fields h
  obtain ⟨_, _, c1, _⟩ := StP.verCells h hlt hvv
  have HV := Lib.hid (version_at h i (at_end hl) hvv)
  have HX := Lib.hid h
  have HR := Lib.hid hr
  have HVV := Lib.hid hvv
  have HC := Lib.hid (fun W => parts_walk W q hq0 hq1)
  rw [hq] at HC
  have HL := Lib.hid (fun (w' : World) (hw : Has o w0 w' (StP b x A)) => stp_cas_not hw hr (.end_ i) u p q hl hne)
  have HL0 := Lib.hid hl
  clear h hr hl hvv hq hne
  go_enter Tryd.func14, Tryd.ntmps14
  go_wp2_with fail
  refine HV.out.mono ?_
  rintro e w' ⟨rfl, rfl⟩
  go_wp2_with fail
  refine (HC.out _).mono ?_
  rintro e w' ⟨rfl, rfl⟩
  go_wp2_with fail
  go_region_held3 (fun w' => w'.cell? ⟨b, 0, none⟩ = some (.pointer (some ⟨x.ab, 0, none⟩)) ∧ w'.cell? ⟨g, i * 5 + 2, none⟩ = some (.int .i64 ((x.C.v i).2.1)))
    (first | exact ⟨c0, c1⟩ | exact ⟨d0, d1⟩)
    (first | (go_at_call 40
              refine (HL.out _ (HX.out.quiet ((Kept.refl _ _).drew))).mono ?_
              rintro e w4 ⟨rfl, hX4⟩
              obtain ⟨d0, _, _, _⟩ := StP.fields hX4
              obtain ⟨_, _, d1, _⟩ := StP.verCells hX4 hlt HVV.out
              have HX4 := Lib.hid hX4
              clear hX4))
  go_wp2_with fail
  go_ret2
  exact ⟨rfl, HX4.out.stShut HR.out.step⟩

set_option maxHeartbeats 2000000 in
set_option maxRecDepth 100000 in
theorem takeLock_no (h : Has o w0 w (.store b A)) (n : Int) (hn : ∀ i : Nat, n = (i : Int) + 1 → A.nN ≤ i) (p q : Int) :
    Calls Tryd.prog 56 #[.pointer (some ⟨b, 0, none⟩), .int .i64 n, .int .u64 p, .int .u64 q] w fun e w' => e = .returned (.tuple #[.bool false, .int .i64 110]) ∧ w' = w := by
  obtain ⟨x, hr, h⟩ := h.stOpen
  have HV := Lib.hid (node_no h n hn)
  have HN := Lib.hid (none_walk w b)
  clear h hr hn
  go_enter Tryd.func56, Tryd.ntmps56
  go_wp2_with fail
  refine HV.out.mono ?_
  rintro e w' ⟨rfl, rfl⟩
  go_wp2_with fail
  refine HN.out.mono ?_
  rintro e w' ⟨rfl, rfl⟩
  go_wp2_with fail
  go_ret2
  exact ⟨rfl, rfl⟩

set_option maxHeartbeats 2000000 in
set_option maxRecDepth 100000 in
theorem takeLock_yes (h : Has o w0 w (.store b A)) (i : Nat) (p q : Int) (hl : A.at_ (.lock i) = some p) (hq0 : 0 ≤ q) (hq1 : q < 18446744073709551616) :
    Calls Tryd.prog 56 #[.pointer (some ⟨b, 0, none⟩), .int .i64 ((i : Int) + 1), .int .u64 p, .int .u64 q] w fun e w' => e = .returned (.tuple #[.bool true, .int .i64 0]) ∧ Has o w0 w' (.store b (A.step.set (.lock i) q)) := by
  obtain ⟨x, hr, h⟩ := h.stOpen
  have hlt := at_lock hl
  obtain ⟨g, cap, hvv⟩ := StP.nodeSlice h hlt
  obtain ⟨c0, _, _, _⟩ := StP.fields h
  obtain ⟨_, c1⟩ := StP.nodeCells h hlt hvv
  have HV := Lib.hid (node_at h i (at_lock hl) hvv)
  have HX := Lib.hid h
  have HR := Lib.hid hr
  have HVV := Lib.hid hvv
  have HL := Lib.hid (fun (w' : World) (hw : Has o w0 w' (StP b x A)) => stp_cas hw hr (.lock i) p q hl)
  have HL0 := Lib.hid hl
  clear h hr hl hvv
  go_enter Tryd.func56, Tryd.ntmps56
  go_wp2_with fail
  refine HV.out.mono ?_
  rintro e w' ⟨rfl, rfl⟩
  go_wp2_with fail
  go_region_held3 (fun w' => w'.cell? ⟨b, 0, none⟩ = some (.pointer (some ⟨x.ab, 0, none⟩)) ∧ w'.cell? ⟨g, i * 2 + 1, none⟩ = some (.int .i64 ((x.C.n i).2)))
    (first | exact ⟨c0, c1⟩ | exact ⟨d0, d1⟩)
    (first | (go_at_call 40
              refine (HL.out _ (HX.out.quiet ((Kept.refl _ _).drew))).mono ?_
              rintro e w4 ⟨rfl, hX4⟩
              obtain ⟨d0, _, _, _⟩ := StP.fields hX4
              obtain ⟨_, d1⟩ := StP.nodeCells hX4 hlt HVV.out
              have HX4 := Lib.hid hX4
              clear hX4))
  go_wp2_with fail
  go_ret2
  exact ⟨rfl, HX4.out.stShut (HR.out.step.put (l := .lock i) (u := p) HL0.out ⟨hq0, hq1⟩ (fun _ e => by cases e) (fun _ e => by cases e))⟩

set_option maxHeartbeats 2000000 in
set_option maxRecDepth 100000 in
theorem takeLock_not (h : Has o w0 w (.store b A)) (i : Nat) (u p q : Int) (hl : A.at_ (.lock i) = some u) (hne : u ≠ p) (hq0 : 0 ≤ q) (hq1 : q < 18446744073709551616) :
    Calls Tryd.prog 56 #[.pointer (some ⟨b, 0, none⟩), .int .i64 ((i : Int) + 1), .int .u64 p, .int .u64 q] w fun e w' => e = .returned (.tuple #[.bool false, .int .i64 0]) ∧ Has o w0 w' (.store b A.step) := by
  obtain ⟨x, hr, h⟩ := h.stOpen
  have hlt := at_lock hl
  obtain ⟨g, cap, hvv⟩ := StP.nodeSlice h hlt
  obtain ⟨c0, _, _, _⟩ := StP.fields h
  obtain ⟨_, c1⟩ := StP.nodeCells h hlt hvv
  have HV := Lib.hid (node_at h i (at_lock hl) hvv)
  have HX := Lib.hid h
  have HR := Lib.hid hr
  have HVV := Lib.hid hvv
  have HL := Lib.hid (fun (w' : World) (hw : Has o w0 w' (StP b x A)) => stp_cas_not hw hr (.lock i) u p q hl hne)
  have HL0 := Lib.hid hl
  clear h hr hl hvv hne
  go_enter Tryd.func56, Tryd.ntmps56
  go_wp2_with fail
  refine HV.out.mono ?_
  rintro e w' ⟨rfl, rfl⟩
  go_wp2_with fail
  go_region_held3 (fun w' => w'.cell? ⟨b, 0, none⟩ = some (.pointer (some ⟨x.ab, 0, none⟩)) ∧ w'.cell? ⟨g, i * 2 + 1, none⟩ = some (.int .i64 ((x.C.n i).2)))
    (first | exact ⟨c0, c1⟩ | exact ⟨d0, d1⟩)
    (first | (go_at_call 40
              refine (HL.out _ (HX.out.quiet ((Kept.refl _ _).drew))).mono ?_
              rintro e w4 ⟨rfl, hX4⟩
              obtain ⟨d0, _, _, _⟩ := StP.fields hX4
              obtain ⟨_, d1⟩ := StP.nodeCells hX4 hlt HVV.out
              have HX4 := Lib.hid hX4
              clear hX4))
  go_wp2_with fail
  go_ret2
  exact ⟨rfl, HX4.out.stShut HR.out.step⟩

set_option maxHeartbeats 2000000 in
set_option maxRecDepth 100000 in
theorem setBegin_no (h : Has o w0 w (.store b A)) (n : Int) (hn : ∀ i : Nat, n = (i : Int) + 1 → A.ver i = false) (q : Int) :
    Calls Tryd.prog 64 #[.pointer (some ⟨b, 0, none⟩), .int .i64 n, .int .u64 q] w fun e w' => e = .returned (.int .i64 110) ∧ w' = w := by
  obtain ⟨x, hr, h⟩ := h.stOpen
  have HV := Lib.hid (version_no h n hn)
  have HN := Lib.hid (none_walk w b)
  clear h hr hn
  go_enter Tryd.func64, Tryd.ntmps64
  go_wp2_with fail
  refine HV.out.mono ?_
  rintro e w' ⟨rfl, rfl⟩
  go_wp2_with fail
  refine HN.out.mono ?_
  rintro e w' ⟨rfl, rfl⟩
  go_wp2_with fail
  go_ret
  exact ⟨rfl, rfl⟩

set_option maxHeartbeats 2000000 in
set_option maxRecDepth 100000 in
theorem setBegin_bad (h : Has o w0 w (.store b A)) (i : Nat) (u q : Int) (hl : A.at_ (.begin_ i) = some u) (hq0 : 0 ≤ q) (hq1 : q < 18446744073709551616) (hq : wBegins q = false) :
    Calls Tryd.prog 64 #[.pointer (some ⟨b, 0, none⟩), .int .i64 ((i : Int) + 1), .int .u64 q] w fun e w' => e = .returned (.int .i64 50) ∧ w' = w := by
  obtain ⟨x, hr, h⟩ := h.stOpen
  have hlt := ver_lt (at_begin hl)
  obtain ⟨g, cap, hvv⟩ := StP.verSlice h hlt
  obtain ⟨c0, _, _, _⟩ := StP.fields h
  obtain ⟨_, c1, _, _⟩ := StP.verCells h hlt hvv
  have HV := Lib.hid (version_at h i (at_begin hl) hvv)
  have HX := Lib.hid h
  have HR := Lib.hid hr
  have HVV := Lib.hid hvv
  have HC := Lib.hid (fun W => begins_walk W q hq0 hq1)
  rw [hq] at HC
  clear h hr hl hvv hq
  go_enter Tryd.func64, Tryd.ntmps64
  go_wp2_with fail
  refine HV.out.mono ?_
  rintro e w' ⟨rfl, rfl⟩
  go_wp2_with fail
  refine (HC.out _).mono ?_
  rintro e w' ⟨rfl, rfl⟩
  go_wp2_with fail
  go_ret
  exact ⟨rfl, rfl⟩

set_option maxHeartbeats 2000000 in
set_option maxRecDepth 100000 in
theorem setBegin_at (h : Has o w0 w (.store b A)) (i : Nat) (u q : Int) (hl : A.at_ (.begin_ i) = some u) (hq0 : 0 ≤ q) (hq1 : q < 18446744073709551616) (hq : wBegins q = true) :
    Calls Tryd.prog 64 #[.pointer (some ⟨b, 0, none⟩), .int .i64 ((i : Int) + 1), .int .u64 q] w fun e w' => e = .returned (.int .i64 0) ∧ Has o w0 w' (.store b (A.step.set (.begin_ i) q)) := by
  obtain ⟨x, hr, h⟩ := h.stOpen
  have hlt := ver_lt (at_begin hl)
  obtain ⟨g, cap, hvv⟩ := StP.verSlice h hlt
  obtain ⟨c0, _, _, _⟩ := StP.fields h
  obtain ⟨_, c1, _, _⟩ := StP.verCells h hlt hvv
  have HV := Lib.hid (version_at h i (at_begin hl) hvv)
  have HX := Lib.hid h
  have HR := Lib.hid hr
  have HVV := Lib.hid hvv
  have HC := Lib.hid (fun W => begins_walk W q hq0 hq1)
  rw [hq] at HC
  have HL := Lib.hid (fun (w' : World) (hw : Has o w0 w' (StP b x A)) => stp_store hw hr (.begin_ i) u q hl)
  have HL0 := Lib.hid hl
  clear h hr hl hvv hq
  go_enter Tryd.func64, Tryd.ntmps64
  go_wp2_with fail
  refine HV.out.mono ?_
  rintro e w' ⟨rfl, rfl⟩
  go_wp2_with fail
  refine (HC.out _).mono ?_
  rintro e w' ⟨rfl, rfl⟩
  go_wp2_with fail
  go_region_held3 (fun w' => w'.cell? ⟨b, 0, none⟩ = some (.pointer (some ⟨x.ab, 0, none⟩)) ∧ w'.cell? ⟨g, i * 5 + 1, none⟩ = some (.int .i64 ((x.C.v i).1)))
    (first | exact ⟨c0, c1⟩ | exact ⟨d0, d1⟩)
    (first | (go_at_call 44
              refine (HL.out _ (HX.out.quiet ((Kept.refl _ _).drew))).mono ?_
              rintro e w4 ⟨rfl, hX4⟩
              obtain ⟨d0, _, _, _⟩ := StP.fields hX4
              obtain ⟨_, d1, _, _⟩ := StP.verCells hX4 hlt HVV.out
              have HX4 := Lib.hid hX4
              clear hX4))
  go_wp2_with fail
  go_ret
  exact ⟨rfl, HX4.out.stShut (HR.out.step.put (l := .begin_ i) (u := u) HL0.out ⟨hq0, hq1⟩ (fun _ e => by cases e) (fun _ e => by cases e))⟩

set_option maxHeartbeats 2000000 in
set_option maxRecDepth 100000 in
theorem setEnd_no (h : Has o w0 w (.store b A)) (n : Int) (hn : ∀ i : Nat, n = (i : Int) + 1 → A.ver i = false) (q : Int) :
    Calls Tryd.prog 66 #[.pointer (some ⟨b, 0, none⟩), .int .i64 n, .int .u64 q] w fun e w' => e = .returned (.int .i64 110) ∧ w' = w := by
  obtain ⟨x, hr, h⟩ := h.stOpen
  have HV := Lib.hid (version_no h n hn)
  have HN := Lib.hid (none_walk w b)
  clear h hr hn
  go_enter Tryd.func66, Tryd.ntmps66
  go_wp2_with fail
  refine HV.out.mono ?_
  rintro e w' ⟨rfl, rfl⟩
  go_wp2_with fail
  refine HN.out.mono ?_
  rintro e w' ⟨rfl, rfl⟩
  go_wp2_with fail
  go_ret
  exact ⟨rfl, rfl⟩

set_option maxHeartbeats 2000000 in
set_option maxRecDepth 100000 in
theorem setEnd_bad (h : Has o w0 w (.store b A)) (i : Nat) (u q : Int) (hl : A.at_ (.end_ i) = some u) (hq0 : 0 ≤ q) (hq1 : q < 18446744073709551616) (hq : wOk q = false) :
    Calls Tryd.prog 66 #[.pointer (some ⟨b, 0, none⟩), .int .i64 ((i : Int) + 1), .int .u64 q] w fun e w' => e = .returned (.int .i64 50) ∧ w' = w := by
  obtain ⟨x, hr, h⟩ := h.stOpen
  have hlt := ver_lt (at_end hl)
  obtain ⟨g, cap, hvv⟩ := StP.verSlice h hlt
  obtain ⟨c0, _, _, _⟩ := StP.fields h
  obtain ⟨_, _, c1, _⟩ := StP.verCells h hlt hvv
  have HV := Lib.hid (version_at h i (at_end hl) hvv)
  have HX := Lib.hid h
  have HR := Lib.hid hr
  have HVV := Lib.hid hvv
  have HC := Lib.hid (fun W => parts_walk W q hq0 hq1)
  rw [hq] at HC
  clear h hr hl hvv hq
  go_enter Tryd.func66, Tryd.ntmps66
  go_wp2_with fail
  refine HV.out.mono ?_
  rintro e w' ⟨rfl, rfl⟩
  go_wp2_with fail
  refine (HC.out _).mono ?_
  rintro e w' ⟨rfl, rfl⟩
  go_wp2_with fail
  go_ret
  exact ⟨rfl, rfl⟩

set_option maxHeartbeats 2000000 in
set_option maxRecDepth 100000 in
theorem setEnd_at (h : Has o w0 w (.store b A)) (i : Nat) (u q : Int) (hl : A.at_ (.end_ i) = some u) (hq0 : 0 ≤ q) (hq1 : q < 18446744073709551616) (hq : wOk q = true) :
    Calls Tryd.prog 66 #[.pointer (some ⟨b, 0, none⟩), .int .i64 ((i : Int) + 1), .int .u64 q] w fun e w' => e = .returned (.int .i64 0) ∧ Has o w0 w' (.store b (A.step.set (.end_ i) q)) := by
  obtain ⟨x, hr, h⟩ := h.stOpen
  have hlt := ver_lt (at_end hl)
  obtain ⟨g, cap, hvv⟩ := StP.verSlice h hlt
  obtain ⟨c0, _, _, _⟩ := StP.fields h
  obtain ⟨_, _, c1, _⟩ := StP.verCells h hlt hvv
  have HV := Lib.hid (version_at h i (at_end hl) hvv)
  have HX := Lib.hid h
  have HR := Lib.hid hr
  have HVV := Lib.hid hvv
  have HC := Lib.hid (fun W => parts_walk W q hq0 hq1)
  rw [hq] at HC
  have HL := Lib.hid (fun (w' : World) (hw : Has o w0 w' (StP b x A)) => stp_store hw hr (.end_ i) u q hl)
  have HL0 := Lib.hid hl
  clear h hr hl hvv hq
  go_enter Tryd.func66, Tryd.ntmps66
  go_wp2_with fail
  refine HV.out.mono ?_
  rintro e w' ⟨rfl, rfl⟩
  go_wp2_with fail
  refine (HC.out _).mono ?_
  rintro e w' ⟨rfl, rfl⟩
  go_wp2_with fail
  go_region_held3 (fun w' => w'.cell? ⟨b, 0, none⟩ = some (.pointer (some ⟨x.ab, 0, none⟩)) ∧ w'.cell? ⟨g, i * 5 + 2, none⟩ = some (.int .i64 ((x.C.v i).2.1)))
    (first | exact ⟨c0, c1⟩ | exact ⟨d0, d1⟩)
    (first | (go_at_call 44
              refine (HL.out _ (HX.out.quiet ((Kept.refl _ _).drew))).mono ?_
              rintro e w4 ⟨rfl, hX4⟩
              obtain ⟨d0, _, _, _⟩ := StP.fields hX4
              obtain ⟨_, _, d1, _⟩ := StP.verCells hX4 hlt HVV.out
              have HX4 := Lib.hid hX4
              clear hX4))
  go_wp2_with fail
  go_ret
  exact ⟨rfl, HX4.out.stShut (HR.out.step.put (l := .end_ i) (u := u) HL0.out ⟨hq0, hq1⟩ (fun _ e => by cases e) (fun _ e => by cases e))⟩

end Go.Proofs.YtlaffmdflleeeaaDoor
