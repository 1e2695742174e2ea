/- The walk of Version, where it makes one ahead of another one. -/
import Derived.Test.YtlaffmdflleeeaaDoorStoreVer
namespace Go.Proofs.YtlaffmdflleeeaaDoor
open Go Go.RowKit
set_option linter.unusedVariables false

variable {o : List Nat} {w0 w : World} {b : Nat} {A : ASt}

set_option maxHeartbeats 16000000 in
set_option maxRecDepth 100000 in
theorem version_next {val : ByteArray} {bg : Int} {j : Nat} (hj : A.ver j = true) (h : Has o w0 w (.store b A)) (hT : TabAt w0) (ho : 0 ∉ o) (hfree : A.used + 3 ≤ A.size) (hval : val.size ≤ 64) (hb0 : 0 ≤ bg) (hb1 : bg < 18446744073709551616) (hbg : wBegins bg = true) (hnV : A.nV ≤ 1000000000) :
    Calls Tryd.prog 12 #[.pointer (some ⟨b, 0, none⟩), .string val, .int .u64 bg, .int .i64 ((j : Int) + 1)] w fun e w' => e = .returned (.tuple #[.int .i64 ((A.nV : Int) + 1), .int .i64 0]) ∧ ∃ st, Has o w0 w' (.store b (A.addVer st val bg ((j : Int) + 1))) := by
  obtain ⟨x, hr, h⟩ := h.stOpen
  obtain ⟨g0, cap0, hvv0⟩ := StP.verSlice h (ver_lt hj)
  have HV := Lib.hid (version_at h j hj hvv0)
  have hjl := ver_lt hj
  have e1 : IntKind.u64.wrap ((j : Int) + 1) = (j : Int) + 1 := by unfold IntKind.wrap; simp [IntKind.bits, IntKind.signed]; omega
  have f1 : decide ((j : Int) + 1 = 0) = false := by simp; omega
  have f2 : ((j : Int) + 1 == 0) = false := by simp; omega
  clear hvv0
  have h2 := h.beside (wordsMade (w := w) #[.int .u64 bg, .int .u64 1099511627776, .int .u64 ((j : Int) + 1)] (verW bg ((j : Int) + 1)) 3 rfl (fun i hi => match i, hi with | 0, _ => rfl | 1, _ => rfl | 2, _ => rfl))
  have HTK := Lib.hid (take_ok h2 hT ho (by omega) (by rw [hr.count, hr.size]; exact hfree))
  have HR := Lib.hid hr
  have HBW := begins_walk w bg hb0 hb1
  rw [hbg] at HBW
  have HBW := Lib.hid HBW
  have d1 : decide ((val.size : Int) > 64) = false := by simp; omega
  have d1' : decide (val.size > 64) = false := by simp; omega
  obtain ⟨i0, hi0, hz0, hz1, hz2⟩ := info_parts info_ver
  clear h h2 hr hT ho hfree hbg
  go_enter Tryd.func12, Tryd.ntmps12
  go_wp2_with fail
  refine HBW.out.mono ?_
  rintro e w' ⟨rfl, rfl⟩
  go_wp2_with fail
  refine HV.out.mono ?_
  rintro e w' ⟨rfl, rfl⟩
  go_wp2_with fail
  refine HTK.out.mono ?_
  rintro e w2 ⟨uv, cs, S', rfl, hcl, htk, hld, hX⟩
  obtain ⟨c1, c2, c3, rfl⟩ : ∃ c1 c2 c3, cs = [c1, c2, c3] := by
    match cs, hcl with
    | [c1, c2, c3], _ => exact ⟨c1, c2, c3, rfl⟩
  have hX2 : Has o w0 w2 ((StP b { x with S := S' } A).sep (.nums uv [c1, c2, c3])) := hX.weaken (Part.Imp.sep (Part.Imp.refl _) (Part.Imp.snd _ _))
  have HRN := Lib.hid (HR.out.addVer (val := val) htk hld ⟨hb0, hb1⟩ ⟨by omega, by omega, by omega⟩)
  obtain ⟨o3, h3, _⟩ := hX2.right
  obtain ⟨np, nc, rfl, _, _, hc⟩ := nums_open h3
  obtain ⟨g, rfl, hc2⟩ := hc (by simp)
  have y1 : w2.cell? ⟨g, 0, none⟩ = some (.int .i64 (c1 : Nat)) := hc2 0 (by simp)
  have y2 : w2.cell? ⟨g, 1, none⟩ = some (.int .i64 (c2 : Nat)) := hc2 1 (by simp)
  have y3 : w2.cell? ⟨g, 2, none⟩ = some (.int .i64 (c3 : Nat)) := hc2 2 (by simp)
  simp only [List.length_cons, List.length_nil] at *
  obtain ⟨o4, h4, _⟩ := hX2.left
  obtain ⟨_, _, y0, _⟩ := StP.fields h4
  obtain ⟨o5, h5⟩ := StP.vers h4
  have HROW := Lib.hid h5.rowsOwn
  have HX := Lib.hid hX2
  clear hX hX2 h3 h4 h5 hc hc2 hcl htk hld HTK
  go_wp2_with fail
  have HROW2 := Lib.hid (show w2.drew.ownsRow 0 81 5 x.vv A.nV (flatN A.nV (verF x.C A)) from HROW.out)
  have HXD := Lib.hid (HX.out.quiet ((Kept.refl [] w2).drew))
  have y0a : (w2.alloc (.cells #[.string val, .int .i64 (c1 : Nat), .int .i64 (c2 : Nat), .int .i64 (c3 : Nat), .bool false] 81)).cell? ⟨b, 2, none⟩ = some x.vv := ((Kept.refl [] w2).alloc _).cell y0 (by simp)
  go_region_law
    (refine step_append_new rfl (.tmp 48) (.tmp 60) 71 rfl 81 i0 (.agg #[.string default, .int .i64 0, .int .i64 0, .int .i64 0, .bool false]) 5 48 Tryd.underlying71 hi0 hz0 hz1 hz2 rfl (by decide) x.vv A.nV (flatN A.nV (verF x.C A)) rfl (HROW2.out.alloc _) ⟨_, 0, none⟩ 1 1 [.string val, .int .i64 (c1 : Nat), .int .i64 (c2 : Nat), .int .i64 (c3 : Nat), .bool false] rfl rfl (cells_five _ _ _ _ _ _ _ (by simp)) (by simp [Value.oneCell']) (by simp only [maxLen]; omega) (by omega) ?_
     intro v' w5 happ
     obtain ⟨⟨o7, h7⟩, z3, zf, hP⟩ := stp_moreVer (bg := bg) (nx := (j : Int) + 1) S'.steps _ HXD.out happ
     obtain ⟨_, _, he7, _, _, hc7⟩ := nums_open h7
     obtain ⟨g7, hg7, hc7⟩ := hc7 (by simp)
     obtain rfl : g = g7 := by simp only [Value.slice.injEq] at he7; rw [← he7.1] at hg7; simpa using hg7
     have z1 : w5.cell? ⟨g, 0, none⟩ = some (.int .i64 (c1 : Nat)) := hc7 0 (by simp)
     have z2 : w5.cell? ⟨g, 1, none⟩ = some (.int .i64 (c2 : Nat)) := hc7 1 (by simp)
     have z4 : w5.cell? ⟨g, 2, none⟩ = some (.int .i64 (c3 : Nat)) := hc7 2 (by simp)
     obtain ⟨gv, vcap, rfl⟩ : ∃ gv vcap, v' = .slice (some ⟨gv, 0, none⟩) (A.nV + 1) vcap := by
       rcases rowN_open happ.row with ⟨_, h0⟩ | ⟨gv, vc, e, _⟩
       · omega
       · exact ⟨gv, vc, e⟩
     have HP := Lib.hid hP
     clear happ h7 he7 hc7 hP)
  all_goals (
    go_wp2_with fail
    go_ret2
    exact ⟨rfl, S'.steps, Has.stShut (x := { x with vv := .slice (some ⟨gv, 0, none⟩) (A.nV + 1) vcap, S := S', C := x.C.addVer A.nV c1 c2 c3 }) HRN.out HP.out.fst⟩)
end Go.Proofs.YtlaffmdflleeeaaDoor
