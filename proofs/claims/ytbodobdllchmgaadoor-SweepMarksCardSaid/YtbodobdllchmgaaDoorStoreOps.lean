/- The walks of a store's loads and swaps. -/
import Derived.Test.YtbodobdllchmgaaDoorStoreAt
import Derived.Test.YtbodobdllchmgaaDoorWord
import Derived.Deep.RegionHeld3
namespace Go.Proofs.YtbodobdllchmgaaDoor
open Go Go.RowKit
set_option linter.unusedVariables false

variable {o : List Nat} {w0 w : World} {b : Nat} {A : ASt}

set_option maxHeartbeats 2000000 in
set_option maxRecDepth 100000 in
theorem begin_no (h : Has o w0 w (.store b A)) (n : Int) (hn : ∀ i : Nat, n = (i : Int) + 1 → A.ver i = false) :
    Calls Tryd.prog 46 #[.pointer (some ⟨b, 0, none⟩), .int .i64 n] w fun e w' => e = .returned (.tuple #[.int .u64 0, .int .i64 110]) ∧ w' = w := by
  obtain ⟨x, hr, h⟩ := h.stOpen
  have HV := Lib.hid (version_no h n hn)
  have HN := Lib.hid (none_walk w b)
  clear h hr hn
  go_enter Tryd.func46, Tryd.ntmps46
  go_wp2_with fail
  refine HV.out.mono ?_
  rintro e w' ⟨rfl, rfl⟩
  go_wp2_with fail
  refine HN.out.mono ?_
  rintro e w' ⟨rfl, rfl⟩
  go_wp2_with fail
  go_ret2
  exact ⟨rfl, rfl⟩

set_option maxHeartbeats 2000000 in
set_option maxRecDepth 100000 in
theorem begin_at (h : Has o w0 w (.store b A)) (i : Nat) (v : Int) (hl : A.at_ (.begin_ i) = some v) :
    Calls Tryd.prog 46 #[.pointer (some ⟨b, 0, none⟩), .int .i64 ((i : Int) + 1)] w fun e w' => e = .returned (.tuple #[.int .u64 v, .int .i64 0]) ∧ Has o w0 w' (.store b A.step) := by
  obtain ⟨x, hr, h⟩ := h.stOpen
  have hlt := ver_lt (at_begin hl)
  obtain ⟨g, cap, hvv⟩ := StP.verSlice h hlt
  obtain ⟨c0, _, _, _⟩ := StP.fields h
  obtain ⟨_, c1, _, _⟩ := StP.verCells h hlt hvv
  have hw9 := hr.word _ v hl
  have HV := Lib.hid (version_at h i (at_begin hl) hvv)
  have HL := Lib.hid (fun (w' : World) (hw : Has o w0 w' (StP b x A)) => stp_load hw hr (.begin_ i) v hl)
  have HX := Lib.hid h
  have HR := Lib.hid hr
  have HVV := Lib.hid hvv
  clear h hr hl hvv
  go_enter Tryd.func46, Tryd.ntmps46
  go_wp2_with fail
  refine HV.out.mono ?_
  rintro e w' ⟨rfl, rfl⟩
  go_wp2_with fail
  go_region_held3 (fun w' => w'.cell? ⟨b, 0, none⟩ = some (.pointer (some ⟨x.ab, 0, none⟩)) ∧ w'.cell? ⟨g, i * 5 + 1, none⟩ = some (.int .i64 ((x.C.v i).1)))
    (first | exact ⟨c0, c1⟩ | exact ⟨d0, d1⟩)
    (first | (go_at_call 51
              refine (HL.out _ (HX.out.quiet ((Kept.refl _ _).drew))).mono ?_
              rintro e w4 ⟨rfl, hX4⟩
              obtain ⟨d0, _, _, _⟩ := StP.fields hX4
              obtain ⟨_, d1, _, _⟩ := StP.verCells hX4 hlt HVV.out
              have HX4 := Lib.hid hX4
              clear hX4))
  go_wp2_with fail
  go_ret2
  exact ⟨rfl, HX4.out.stShut HR.out.step⟩

set_option maxHeartbeats 2000000 in
set_option maxRecDepth 100000 in
theorem end_no (h : Has o w0 w (.store b A)) (n : Int) (hn : ∀ i : Nat, n = (i : Int) + 1 → A.ver i = false) :
    Calls Tryd.prog 47 #[.pointer (some ⟨b, 0, none⟩), .int .i64 n] w fun e w' => e = .returned (.tuple #[.int .u64 0, .int .i64 110]) ∧ w' = w := by
  obtain ⟨x, hr, h⟩ := h.stOpen
  have HV := Lib.hid (version_no h n hn)
  have HN := Lib.hid (none_walk w b)
  clear h hr hn
  go_enter Tryd.func47, Tryd.ntmps47
  go_wp2_with fail
  refine HV.out.mono ?_
  rintro e w' ⟨rfl, rfl⟩
  go_wp2_with fail
  refine HN.out.mono ?_
  rintro e w' ⟨rfl, rfl⟩
  go_wp2_with fail
  go_ret2
  exact ⟨rfl, rfl⟩

set_option maxHeartbeats 2000000 in
set_option maxRecDepth 100000 in
theorem end_at (h : Has o w0 w (.store b A)) (i : Nat) (v : Int) (hl : A.at_ (.end_ i) = some v) :
    Calls Tryd.prog 47 #[.pointer (some ⟨b, 0, none⟩), .int .i64 ((i : Int) + 1)] w fun e w' => e = .returned (.tuple #[.int .u64 v, .int .i64 0]) ∧ Has o w0 w' (.store b A.step) := by
  obtain ⟨x, hr, h⟩ := h.stOpen
  have hlt := ver_lt (at_end hl)
  obtain ⟨g, cap, hvv⟩ := StP.verSlice h hlt
  obtain ⟨c0, _, _, _⟩ := StP.fields h
  obtain ⟨_, _, c1, _⟩ := StP.verCells h hlt hvv
  have hw9 := hr.word _ v hl
  have HV := Lib.hid (version_at h i (at_end hl) hvv)
  have HL := Lib.hid (fun (w' : World) (hw : Has o w0 w' (StP b x A)) => stp_load hw hr (.end_ i) v hl)
  have HX := Lib.hid h
  have HR := Lib.hid hr
  have HVV := Lib.hid hvv
  clear h hr hl hvv
  go_enter Tryd.func47, Tryd.ntmps47
  go_wp2_with fail
  refine HV.out.mono ?_
  rintro e w' ⟨rfl, rfl⟩
  go_wp2_with fail
  go_region_held3 (fun w' => w'.cell? ⟨b, 0, none⟩ = some (.pointer (some ⟨x.ab, 0, none⟩)) ∧ w'.cell? ⟨g, i * 5 + 2, none⟩ = some (.int .i64 ((x.C.v i).2.1)))
    (first | exact ⟨c0, c1⟩ | exact ⟨d0, d1⟩)
    (first | (go_at_call 51
              refine (HL.out _ (HX.out.quiet ((Kept.refl _ _).drew))).mono ?_
              rintro e w4 ⟨rfl, hX4⟩
              obtain ⟨d0, _, _, _⟩ := StP.fields hX4
              obtain ⟨_, _, d1, _⟩ := StP.verCells hX4 hlt HVV.out
              have HX4 := Lib.hid hX4
              clear hX4))
  go_wp2_with fail
  go_ret2
  exact ⟨rfl, HX4.out.stShut HR.out.step⟩

set_option maxHeartbeats 2000000 in
set_option maxRecDepth 100000 in
theorem next_no (h : Has o w0 w (.store b A)) (n : Int) (hn : ∀ i : Nat, n = (i : Int) + 1 → A.ver i = false) :
    Calls Tryd.prog 77 #[.pointer (some ⟨b, 0, none⟩), .int .i64 n] w fun e w' => e = .returned (.tuple #[.int .i64 0, .int .i64 110]) ∧ w' = w := by
  obtain ⟨x, hr, h⟩ := h.stOpen
  have HV := Lib.hid (version_no h n hn)
  have HN := Lib.hid (none_walk w b)
  clear h hr hn
  go_enter Tryd.func77, Tryd.ntmps77
  go_wp2_with fail
  refine HV.out.mono ?_
  rintro e w' ⟨rfl, rfl⟩
  go_wp2_with fail
  refine HN.out.mono ?_
  rintro e w' ⟨rfl, rfl⟩
  go_wp2_with fail
  go_ret2
  exact ⟨rfl, rfl⟩

set_option maxHeartbeats 2000000 in
set_option maxRecDepth 100000 in
theorem next_at (h : Has o w0 w (.store b A)) (i : Nat) (v : Int) (hl : A.at_ (.next i) = some v) (hi9 : v < 9223372036854775808) :
    Calls Tryd.prog 77 #[.pointer (some ⟨b, 0, none⟩), .int .i64 ((i : Int) + 1)] w fun e w' => e = .returned (.tuple #[.int .i64 v, .int .i64 0]) ∧ Has o w0 w' (.store b A.step) := by
  obtain ⟨x, hr, h⟩ := h.stOpen
  have hlt := ver_lt (at_next hl)
  obtain ⟨g, cap, hvv⟩ := StP.verSlice h hlt
  obtain ⟨c0, _, _, _⟩ := StP.fields h
  obtain ⟨_, _, _, c1⟩ := StP.verCells h hlt hvv
  have hw9 := hr.word _ v hl
  have HV := Lib.hid (version_at h i (at_next hl) hvv)
  have HL := Lib.hid (fun (w' : World) (hw : Has o w0 w' (StP b x A)) => stp_load hw hr (.next i) v hl)
  have HX := Lib.hid h
  have HR := Lib.hid hr
  have HVV := Lib.hid hvv
  have e9 : IntKind.i64.wrap v = v := by unfold IntKind.wrap; simp [IntKind.bits, IntKind.signed]; omega
  clear h hr hl hvv
  go_enter Tryd.func77, Tryd.ntmps77
  go_wp2_with fail
  refine HV.out.mono ?_
  rintro e w' ⟨rfl, rfl⟩
  go_wp2_with fail
  go_region_held3 (fun w' => w'.cell? ⟨b, 0, none⟩ = some (.pointer (some ⟨x.ab, 0, none⟩)) ∧ w'.cell? ⟨g, i * 5 + 3, none⟩ = some (.int .i64 ((x.C.v i).2.2)))
    (first | exact ⟨c0, c1⟩ | exact ⟨d0, d1⟩)
    (first | (go_at_call 51
              refine (HL.out _ (HX.out.quiet ((Kept.refl _ _).drew))).mono ?_
              rintro e w4 ⟨rfl, hX4⟩
              obtain ⟨d0, _, _, _⟩ := StP.fields hX4
              obtain ⟨_, _, _, d1⟩ := StP.verCells hX4 hlt HVV.out
              have HX4 := Lib.hid hX4
              clear hX4))
  go_wp2_with fail
  go_ret2
  exact ⟨rfl, HX4.out.stShut HR.out.step⟩

set_option maxHeartbeats 2000000 in
set_option maxRecDepth 100000 in
theorem head_no (h : Has o w0 w (.store b A)) (n : Int) (hn : ∀ i : Nat, n = (i : Int) + 1 → A.nN ≤ i) :
    Calls Tryd.prog 25 #[.pointer (some ⟨b, 0, none⟩), .int .i64 n] w fun e w' => e = .returned (.tuple #[.int .i64 0, .int .i64 110]) ∧ w' = w := by
  obtain ⟨x, hr, h⟩ := h.stOpen
  have HV := Lib.hid (node_no h n hn)
  have HN := Lib.hid (none_walk w b)
  clear h hr hn
  go_enter Tryd.func25, Tryd.ntmps25
  go_wp2_with fail
  refine HV.out.mono ?_
  rintro e w' ⟨rfl, rfl⟩
  go_wp2_with fail
  refine HN.out.mono ?_
  rintro e w' ⟨rfl, rfl⟩
  go_wp2_with fail
  go_ret2
  exact ⟨rfl, rfl⟩

set_option maxHeartbeats 2000000 in
set_option maxRecDepth 100000 in
theorem head_at (h : Has o w0 w (.store b A)) (i : Nat) (v : Int) (hl : A.at_ (.head i) = some v) (hi9 : v < 9223372036854775808) :
    Calls Tryd.prog 25 #[.pointer (some ⟨b, 0, none⟩), .int .i64 ((i : Int) + 1)] w fun e w' => e = .returned (.tuple #[.int .i64 v, .int .i64 0]) ∧ Has o w0 w' (.store b A.step) := by
  obtain ⟨x, hr, h⟩ := h.stOpen
  have hlt := at_head hl
  obtain ⟨g, cap, hvv⟩ := StP.nodeSlice h hlt
  obtain ⟨c0, _, _, _⟩ := StP.fields h
  obtain ⟨c1, _⟩ := StP.nodeCells h hlt hvv
  have hw9 := hr.word _ v hl
  have HV := Lib.hid (node_at h i (at_head hl) hvv)
  have HL := Lib.hid (fun (w' : World) (hw : Has o w0 w' (StP b x A)) => stp_load hw hr (.head i) v hl)
  have HX := Lib.hid h
  have HR := Lib.hid hr
  have HVV := Lib.hid hvv
  have e9 : IntKind.i64.wrap v = v := by unfold IntKind.wrap; simp [IntKind.bits, IntKind.signed]; omega
  clear h hr hl hvv
  go_enter Tryd.func25, Tryd.ntmps25
  go_wp2_with fail
  refine HV.out.mono ?_
  rintro e w' ⟨rfl, rfl⟩
  go_wp2_with fail
  go_region_held3 (fun w' => w'.cell? ⟨b, 0, none⟩ = some (.pointer (some ⟨x.ab, 0, none⟩)) ∧ w'.cell? ⟨g, i * 2, none⟩ = some (.int .i64 ((x.C.n i).1)))
    (first | exact ⟨c0, c1⟩ | exact ⟨d0, d1⟩)
    (first | (go_at_call 51
              refine (HL.out _ (HX.out.quiet ((Kept.refl _ _).drew))).mono ?_
              rintro e w4 ⟨rfl, hX4⟩
              obtain ⟨d0, _, _, _⟩ := StP.fields hX4
              obtain ⟨d1, _⟩ := StP.nodeCells hX4 hlt HVV.out
              have HX4 := Lib.hid hX4
              clear hX4))
  go_wp2_with fail
  go_ret2
  exact ⟨rfl, HX4.out.stShut HR.out.step⟩

end Go.Proofs.YtbodobdllchmgaaDoor
