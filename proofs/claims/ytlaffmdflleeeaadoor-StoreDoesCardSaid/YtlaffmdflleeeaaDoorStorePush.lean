/- The walk of Push, where it can. -/
import Derived.Test.YtlaffmdflleeeaaDoorStoreSwaps
namespace Go.Proofs.YtlaffmdflleeeaaDoor
open Go Go.RowKit
set_option linter.unusedVariables false

variable {o : List Nat} {w0 w : World} {b : Nat} {A : ASt}

set_option maxHeartbeats 4000000 in
set_option maxRecDepth 100000 in
theorem push_first (h : Has o w0 w (.store b A)) (i j : Nat) (hl : A.at_ (.head i) = some ((0))) (hj : A.ver j = true) (hV : A.nV ≤ 1000000000) :
    Calls Tryd.prog 17 #[.pointer (some ⟨b, 0, none⟩), .int .i64 ((i : Int) + 1), .int .i64 (0), .int .i64 ((j : Int) + 1)] w fun e w' => e = .returned (.tuple #[.bool true, .int .i64 0]) ∧ Has o w0 w' (.store b (A.step.set (.head i) ((j : Int) + 1))) := by
  obtain ⟨x, hr, h⟩ := h.stOpen
  have hlt := at_head hl
  have hjl := ver_lt hj
  obtain ⟨g, cap, hvv⟩ := StP.nodeSlice h hlt
  obtain ⟨c0, _, _, _⟩ := StP.fields h
  obtain ⟨c1, _⟩ := StP.nodeCells h hlt hvv
  obtain ⟨gj, capj, hvj⟩ := StP.verSlice h hjl
  have HN := Lib.hid (node_at h i hlt hvv)
  have HJ := Lib.hid (version_at h j hj hvj)
  have HL := Lib.hid (fun (w' : World) (hw : Has o w0 w' (StP b x A)) => stp_cas hw hr (.head i) (0) ((j : Int) + 1) hl)
  have HL0 := Lib.hid hl
  have HX := Lib.hid h
  have HR := Lib.hid hr
  have HVV := Lib.hid hvv
  have e2 : IntKind.u64.wrap ((j : Int) + 1) = (j : Int) + 1 := by unfold IntKind.wrap; simp [IntKind.bits, IntKind.signed]; omega
  clear h hr hl hvv hvj hj
  go_enter Tryd.func17, Tryd.ntmps17
  go_wp2_with fail
  refine HN.out.mono ?_
  rintro e w' ⟨rfl, rfl⟩
  go_wp2_with fail
  refine HJ.out.mono ?_
  rintro e w' ⟨rfl, rfl⟩
  go_wp2_with fail
  go_region_held3 (fun w' => w'.cell? ⟨b, 0, none⟩ = some (.pointer (some ⟨x.ab, 0, none⟩)) ∧ w'.cell? ⟨g, i * 2, none⟩ = some (.int .i64 ((x.C.n i).1)))
    (first | exact ⟨c0, c1⟩ | exact ⟨d0, d1⟩)
    (first | (go_at_call 40
              refine (HL.out _ (HX.out.quiet ((Kept.refl _ _).drew))).mono ?_
              rintro e w4 ⟨rfl, hX4⟩
              obtain ⟨d0, _, _, _⟩ := StP.fields hX4
              obtain ⟨d1, _⟩ := StP.nodeCells hX4 hlt HVV.out
              have HX4 := Lib.hid hX4
              clear hX4))
  go_wp2_with fail
  go_ret2
  exact ⟨rfl, HX4.out.stShut (HR.out.step.put (l := .head i) (u := 0) HL0.out ⟨by omega, by omega⟩ (fun _ _ => by show _ ≤ (A.nV : Int); omega) (fun _ e => by cases e))⟩

set_option maxHeartbeats 4000000 in
set_option maxRecDepth 100000 in
theorem push_over (h : Has o w0 w (.store b A)) (i j : Nat) (k : Nat) (hk : A.ver k = true) (hl : A.at_ (.head i) = some (((k : Int) + 1))) (hj : A.ver j = true) (hV : A.nV ≤ 1000000000) :
    Calls Tryd.prog 17 #[.pointer (some ⟨b, 0, none⟩), .int .i64 ((i : Int) + 1), .int .i64 ((k : Int) + 1), .int .i64 ((j : Int) + 1)] w fun e w' => e = .returned (.tuple #[.bool true, .int .i64 0]) ∧ Has o w0 w' (.store b (A.step.set (.head i) ((j : Int) + 1))) := by
  obtain ⟨x, hr, h⟩ := h.stOpen
  have hlt := at_head hl
  have hjl := ver_lt hj
  obtain ⟨g, cap, hvv⟩ := StP.nodeSlice h hlt
  obtain ⟨c0, _, _, _⟩ := StP.fields h
  obtain ⟨c1, _⟩ := StP.nodeCells h hlt hvv
  obtain ⟨gj, capj, hvj⟩ := StP.verSlice h hjl
  have HN := Lib.hid (node_at h i hlt hvv)
  have HJ := Lib.hid (version_at h j hj hvj)
  obtain ⟨gk, capk, hvk⟩ := StP.verSlice h (ver_lt hk)
  have HKV := Lib.hid (version_at h k hk hvk)
  have hkl := ver_lt hk
  have e1 : IntKind.u64.wrap ((k : Int) + 1) = (k : Int) + 1 := by unfold IntKind.wrap; simp [IntKind.bits, IntKind.signed]; omega
  have f1 : decide ((k : Int) + 1 = 0) = false := by simp; omega
  have f2 : ((k : Int) + 1 == 0) = false := by simp; omega
  clear hvk
  have HL := Lib.hid (fun (w' : World) (hw : Has o w0 w' (StP b x A)) => stp_cas hw hr (.head i) ((k : Int) + 1) ((j : Int) + 1) hl)
  have HL0 := Lib.hid hl
  have HX := Lib.hid h
  have HR := Lib.hid hr
  have HVV := Lib.hid hvv
  have e2 : IntKind.u64.wrap ((j : Int) + 1) = (j : Int) + 1 := by unfold IntKind.wrap; simp [IntKind.bits, IntKind.signed]; omega
  clear h hr hl hvv hvj hj
  go_enter Tryd.func17, Tryd.ntmps17
  go_wp2_with fail
  refine HN.out.mono ?_
  rintro e w' ⟨rfl, rfl⟩
  go_wp2_with fail
  refine HKV.out.mono ?_
  rintro e w' ⟨rfl, rfl⟩
  go_wp2_with fail
  refine HJ.out.mono ?_
  rintro e w' ⟨rfl, rfl⟩
  go_wp2_with fail
  go_region_held3 (fun w' => w'.cell? ⟨b, 0, none⟩ = some (.pointer (some ⟨x.ab, 0, none⟩)) ∧ w'.cell? ⟨g, i * 2, none⟩ = some (.int .i64 ((x.C.n i).1)))
    (first | exact ⟨c0, c1⟩ | exact ⟨d0, d1⟩)
    (first | (go_at_call 40
              refine (HL.out _ (HX.out.quiet ((Kept.refl _ _).drew))).mono ?_
              rintro e w4 ⟨rfl, hX4⟩
              obtain ⟨d0, _, _, _⟩ := StP.fields hX4
              obtain ⟨d1, _⟩ := StP.nodeCells hX4 hlt HVV.out
              have HX4 := Lib.hid hX4
              clear hX4))
  go_wp2_with fail
  go_ret2
  exact ⟨rfl, HX4.out.stShut (HR.out.step.put (l := .head i) (u := (k : Int) + 1) HL0.out ⟨by omega, by omega⟩ (fun _ _ => by show _ ≤ (A.nV : Int); omega) (fun _ e => by cases e))⟩

end Go.Proofs.YtlaffmdflleeeaaDoor
