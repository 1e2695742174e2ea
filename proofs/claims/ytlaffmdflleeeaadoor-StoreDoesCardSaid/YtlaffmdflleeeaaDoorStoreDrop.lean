/- The walk of Drop, where there is a version. -/
import Derived.Test.YtlaffmdflleeeaaDoorStoreCut
namespace Go.Proofs.YtlaffmdflleeeaaDoor
open Go Go.RowKit
set_option linter.unusedVariables false

variable {o : List Nat} {w0 w : World} {b : Nat} {x : StIx} {A : ASt}

set_option maxHeartbeats 8000000 in
set_option maxRecDepth 100000 in
theorem drop_at (h : Has o w0 w (.store b A)) (i j : Nat) (nx : Int) (hh : A.at_ (.head i) = some ((j : Int) + 1)) (hl : A.at_ (.next j) = some nx) (hV : A.nV ≤ 1000000000) :
    Calls Tryd.prog 20 #[.pointer (some ⟨b, 0, none⟩), .int .i64 ((i : Int) + 1)] w fun e w' => e = .returned (.int .i64 0) ∧ ∃ st, Has o w0 w' (.store b (((A.at st).set (.head i) nx).goneV j)) := by
  obtain ⟨x, hr, h⟩ := h.stOpen
  have hver := at_next hl
  have hlt := ver_lt hver
  have hin := at_head hh
  obtain ⟨g, cap, hvv⟩ := StP.verSlice h hlt
  obtain ⟨gn, capn, hnv⟩ := StP.nodeSlice h hin
  obtain ⟨c0, _, _, _⟩ := StP.fields h
  obtain ⟨c1, _⟩ := StP.nodeCells h hin hnv
  have hw9 := hr.word _ nx hl
  have hle := hr.nextLe j nx hl
  have HN := Lib.hid (node_at h i hin hnv)
  have HL := Lib.hid (fun (w' : World) (hw : Has o w0 w' (StP b x A)) => stp_load hw hr (.head i) _ hh)
  have HX := Lib.hid h
  have HR := Lib.hid hr
  have HVV := Lib.hid hvv
  have HNV := Lib.hid hnv
  have HL0 := Lib.hid hl
  have HH0 := Lib.hid hh
  have HVR := Lib.hid hver
  have e9 : IntKind.i64.wrap ((j : Int) + 1) = (j : Int) + 1 := by unfold IntKind.wrap; simp [IntKind.bits, IntKind.signed]; omega
  clear h hr hl hh hvv hnv hver
  go_enter Tryd.func20, Tryd.ntmps20
  go_wp2_with fail
  refine HN.out.mono ?_
  rintro e w' ⟨rfl, rfl⟩
  go_wp2_with fail
  go_region_held3 (fun w' => w'.cell? ⟨b, 0, none⟩ = some (.pointer (some ⟨x.ab, 0, none⟩)) ∧ w'.cell? ⟨gn, i * 2, none⟩ = some (.int .i64 ((x.C.n i).1)))
    (first | exact ⟨c0, c1⟩ | exact ⟨d0, d1⟩)
    (first | (go_at_call 41
              refine (HL.out _ (HX.out.quiet ((Kept.refl _ _).drew))).mono ?_
              rintro e w4 ⟨rfl, hX4⟩
              obtain ⟨d0, _, _, _⟩ := StP.fields hX4
              obtain ⟨d1, _⟩ := StP.nodeCells hX4 hin HNV.out
              have HX4 := Lib.hid hX4
              clear hX4))
  have HV := Lib.hid (version_at HX4.out j HVR.out HVV.out)
  obtain ⟨_, _, _, k1⟩ := StP.verCells HX4.out (A := A.step) hlt HVV.out
  have HL2 := Lib.hid (fun (w' : World) (hw : Has o w0 w' (StP b { x with S := x.S.step } A.step)) => stp_load hw HR.out.step (.next j) nx HL0.out)
  go_wp2_with fail
  refine HV.out.mono ?_
  rintro e w5 ⟨rfl, rfl⟩
  go_wp2_with fail
  go_region_held3 (fun w' => w'.cell? ⟨b, 0, none⟩ = some (.pointer (some ⟨x.ab, 0, none⟩)) ∧ w'.cell? ⟨g, j * 5 + 3, none⟩ = some (.int .i64 ((x.C.v j).2.2)))
    (first | exact ⟨d0, k1⟩ | exact ⟨p0, p1⟩)
    (first | (go_at_call 41
              refine (HL2.out _ (HX4.out.quiet ((Kept.refl _ _).drew))).mono ?_
              rintro e w6 ⟨rfl, hX6⟩
              obtain ⟨p0, _, _, _⟩ := StP.fields hX6
              obtain ⟨_, _, _, p1⟩ := StP.verCells hX6 (A := A.step.step) hlt HVV.out
              have HX6 := Lib.hid hX6
              clear hX6))
  obtain ⟨q1, _⟩ := StP.nodeCells HX6.out (A := A.step.step) hin HNV.out
  have HST := Lib.hid (fun (w' : World) (hw : Has o w0 w' (StP b { x with S := x.S.step.step } A.step.step)) => stp_store hw HR.out.step.step (.head i) ((j : Int) + 1) nx HH0.out)
  have HR8 := Lib.hid (HR.out.step.step.step.put (l := .head i) (u := (j : Int) + 1) (v := nx) HH0.out hw9 (fun _ _ => by show nx ≤ (A.nV : Int); omega) (fun _ e => by cases e))
  go_wp2_with fail
  go_region_held3 (fun w' => w'.cell? ⟨b, 0, none⟩ = some (.pointer (some ⟨x.ab, 0, none⟩)) ∧ w'.cell? ⟨gn, i * 2, none⟩ = some (.int .i64 ((x.C.n i).1)))
    (first | exact ⟨p0, q1⟩ | exact ⟨r0, r1⟩)
    (first | (go_at_call 44
              refine (HST.out _ (HX6.out.quiet ((Kept.refl _ _).drew))).mono ?_
              rintro e w8 ⟨rfl, hX8⟩
              obtain ⟨r0, _, _, _⟩ := StP.fields hX8
              obtain ⟨r1, _⟩ := StP.nodeCells hX8 (A := A.step.step.step.set (.head i) nx) hin HNV.out
              have HX8 := Lib.hid hX8
              clear hX8))
  have hvj : (A.step.step.step.set (.head i) nx).ver j = true := by rw [ASt.ver_set]; exact HVR.out
  have HAW := Lib.hid (away_walk HX8.out HR8.out j hvj HVV.out)
  clear hvj
  go_wp2_with fail
  refine HAW.out.mono ?_
  rintro e w10 ⟨rfl, S2, hr10, hX10⟩
  have HR10 := Lib.hid hr10
  have HX10 := Lib.hid hX10
  clear hr10 hX10
  go_wp2_with fail
  go_ret
  exact ⟨rfl, wrap64 (wrap64 (wrap64 (A.steps + 1) + 1) + 1), Has.stShut (x := { x with S := S2 }) HR10.out HX10.out⟩
end Go.Proofs.YtlaffmdflleeeaaDoor
