/- The walk of Version, where it makes one. -/
import Derived.Test.YtlaffmdflleeeaaDoorStoreMake
import Derived.Test.YtlaffmdflleeeaaDoorWord
namespace Go.Proofs.YtlaffmdflleeeaaDoor
open Go Go.RowKit
set_option linter.unusedVariables false

variable {o : List Nat} {w0 w : World} {b : Nat} {A : ASt}

/-- One more version. -/
def ASt.addVer (A : ASt) (st : Int) (val : ByteArray) (bg nx : Int) : ASt := { A with steps := st, nV := A.nV + 1, V := fun j => if j = A.nV then ⟨val, bg, 1099511627776, nx, false⟩ else A.V j }
def Cells.addVer (C : Cells) (n c1 c2 c3 : Nat) : Cells := { C with v := fun j => if j = n then (c1, c2, c3) else C.v j }
def verW (bg nx : Int) (i : Nat) : Int := if i = 0 then bg else if i = 1 then 1099511627776 else nx

theorem StRep.addVer {S S' : Ar} {C : Cells} {A : ASt} {c1 c2 c3 : Nat} {val : ByteArray} {bg nx : Int} (h : StRep S C A) (ht : Took S [c1, c2, c3]) (hl : Laid S S' [c1, c2, c3] (verW bg nx))
    (hb : 0 ≤ bg ∧ bg < 18446744073709551616) (hn : 0 ≤ nx ∧ nx ≤ A.nV ∧ nx < 18446744073709551616) : StRep S' (C.addVer A.nV c1 c2 c3) (A.addVer S'.steps val bg nx) := by
  have hver : ∀ i, i ≠ A.nV → (A.addVer S'.steps val bg nx).ver i = A.ver i := fun i hi => by
    unfold ASt.ver ASt.addVer
    simp only [if_neg hi]
    by_cases h1 : i < A.nV
    · have : i < A.nV + 1 := by omega
      simp [h1, this]
    · have : ¬ i < A.nV + 1 := by omega
      simp [h1, this]
  have hver2 : (A.addVer S'.steps val bg nx).ver A.nV = true := by unfold ASt.ver ASt.addVer; simp
  have hat : ∀ l v, (A.addVer S'.steps val bg nx).at_ l = some v → (A.at_ l = some v ∧ (C.addVer A.nV c1 c2 c3).of l = C.of l) ∨ ((l = .begin_ A.nV ∧ v = bg) ∨ (l = .end_ A.nV ∧ v = 1099511627776) ∨ (l = .next A.nV ∧ v = nx)) := by
    intro l v hv
    cases l with
    | head i => exact .inl ⟨hv, rfl⟩
    | lock i => exact .inl ⟨hv, rfl⟩
    | state i => exact .inl ⟨hv, rfl⟩
    | begin_ i =>
      by_cases e : i = A.nV
      · subst e; right; left
        simp only [ASt.at_, hver2, if_true] at hv
        simp [ASt.addVer] at hv
        exact ⟨rfl, hv.symm⟩
      · left
        simp only [ASt.at_, hver i e] at hv ⊢
        simp only [ASt.addVer, Cells.of, Cells.addVer, if_neg e] at hv ⊢
        exact ⟨hv, trivial⟩
    | end_ i =>
      by_cases e : i = A.nV
      · subst e; right; right; left
        simp only [ASt.at_, hver2, if_true] at hv
        simp [ASt.addVer] at hv
        exact ⟨rfl, hv.symm⟩
      · left
        simp only [ASt.at_, hver i e] at hv ⊢
        simp only [ASt.addVer, Cells.of, Cells.addVer, if_neg e] at hv ⊢
        exact ⟨hv, trivial⟩
    | next i =>
      by_cases e : i = A.nV
      · subst e; right; right; right
        simp only [ASt.at_, hver2, if_true] at hv
        simp [ASt.addVer] at hv
        exact ⟨rfl, hv.symm⟩
      · left
        simp only [ASt.at_, hver i e] at hv ⊢
        simp only [ASt.addVer, Cells.of, Cells.addVer, if_neg e] at hv ⊢
        exact ⟨hv, trivial⟩
  refine h.ext ht hl (fun l i => (l = .begin_ A.nV ∧ i = 0) ∨ (l = .end_ A.nV ∧ i = 1) ∨ (l = .next A.nV ∧ i = 2)) (fun l v hv => ?_) ?_ rfl rfl ?_ (fun i hi => ?_) (fun i v hv => ?_) (fun i v hv => ?_)
  · rcases hat l v hv with h1 | ⟨rfl, rfl⟩ | ⟨rfl, rfl⟩ | ⟨rfl, rfl⟩
    · exact .inl h1
    · exact .inr ⟨0, by simp, by simp [Cells.of, Cells.addVer], rfl, .inl ⟨rfl, rfl⟩⟩
    · exact .inr ⟨1, by simp, by simp [Cells.of, Cells.addVer], rfl, .inr (.inl ⟨rfl, rfl⟩)⟩
    · exact .inr ⟨2, by simp, by simp [Cells.of, Cells.addVer], rfl, .inr (.inr ⟨rfl, rfl⟩)⟩
  · rintro l l' i (⟨rfl, rfl⟩ | ⟨rfl, rfl⟩ | ⟨rfl, rfl⟩) (⟨rfl, h2⟩ | ⟨rfl, h2⟩ | ⟨rfl, h2⟩)
    all_goals first | rfl | omega
  · have e : cntB (fun i => !((A.addVer S'.steps val bg nx).V i).gone) (A.nV + 1) = cntB (fun i => !(A.V i).gone) A.nV + 1 := by
      have gen : ∀ m, m ≤ A.nV → cntB (fun i => !((A.addVer S'.steps val bg nx).V i).gone) m = cntB (fun i => !(A.V i).gone) m := by
        intro m
        induction m with
        | zero => intro _; rfl
        | succ m ih =>
          intro hm
          unfold cntB
          rw [ih (by omega)]
          simp only [ASt.addVer, if_neg (show ¬ m = A.nV by omega)]
      rw [cntB, gen A.nV (Nat.le_refl _)]
      simp [ASt.addVer]
    show 2 * A.nN + 3 * cntB (fun i => !((A.addVer S'.steps val bg nx).V i).gone) (A.nV + 1) + _ = A.used + 3
    rw [e]
    unfold ASt.used; simp only [ASt.addVer]; omega
  · unfold verW
    by_cases e1 : i = 0
    · rw [if_pos e1]; exact hb
    · rw [if_neg e1]
      by_cases e2 : i = 1
      · rw [if_pos e2]; omega
      · rw [if_neg e2]; exact ⟨hn.1, hn.2.2⟩
  · show v ≤ ((A.nV + 1 : Nat) : Int)
    rcases hat _ v hv with ⟨h1, _⟩ | ⟨h1, _⟩ | ⟨h1, _⟩ | ⟨h1, _⟩
    · have := h.headLe i v h1; omega
    all_goals cases h1
  · rcases hat _ v hv with ⟨h1, _⟩ | ⟨h1, _⟩ | ⟨h1, _⟩ | ⟨h1, rfl⟩
    · exact h.nextLe i v h1
    · cases h1
    · cases h1
    · cases h1; exact hn.2.1

theorem stp_moreVer {w5 : World} {x : StIx} {B : Part} {v' : Value} {c1 c2 c3 : Nat} {val : ByteArray} {bg nx : Int} (st : Int) (ob : Obj) (h : Has o w0 w ((StP b x A).sep B))
    (happ : Appended (w.alloc ob) w5 81 5 x.vv v' (A.nV + 1) (flatN A.nV (verF x.C A) ++ [.string val, .int .i64 (c1 : Nat), .int .i64 (c2 : Nat), .int .i64 (c3 : Nat), .bool false])) :
    (∃ o', Has o' w5 w5 B) ∧ w5.cell? ⟨b, 2, none⟩ = some x.vv ∧ w5.frozen? ⟨b, 2, none⟩ = false ∧ Has o w0 (w5.setCell ⟨b, 2, none⟩ v') ((StP b { x with vv := v', C := x.C.addVer A.nV c1 c2 c3 } (A.addVer st val bg nx)).sep B) := by
  obtain ⟨o1, h1, _, _, b1⟩ := h.left
  obtain ⟨o2, h2, _, _, b2⟩ := h1.right
  obtain ⟨o3, h3, _, _, b3⟩ := h2.right
  obtain ⟨o4, h4, _, _, b4⟩ := h3.left
  have h4 := Has.rowsMore ob h4 happ
  have h5 := b2 _ _ (b3 _ _ (b4 _ _ h4))
  obtain ⟨o6, h6, _, _, b6⟩ := h5.left
  obtain ⟨o7, h7, _, _, b7⟩ := h6.left
  obtain ⟨c, z, hput⟩ := h7.blkAt (i := 2) (by omega)
  obtain ⟨oo, hoo, _⟩ := (b1 _ _ h5).right
  refine ⟨⟨oo, hoo⟩, c, z, b1 _ _ ?_⟩
  have h8 := b6 _ _ (b7 _ _ (hput v'))
  have e1 : upd (stF x.ab x.nv x.vv x.tv) 2 v' = stF x.ab x.nv v' x.tv := funext fun i => by
    unfold upd stF
    by_cases e : i = 2
    · subst e; rfl
    · simp [e]
  have e2 : (fun d => if d = A.nV then [Value.string val, .int .i64 (c1 : Nat), .int .i64 (c2 : Nat), .int .i64 (c3 : Nat), .bool false] else verF x.C A d) = verF (x.C.addVer A.nV c1 c2 c3) (A.addVer st val bg nx) := funext fun d => by
    unfold verF Cells.addVer ASt.addVer
    by_cases e : d = A.nV <;> simp [e]
  rw [e1, e2] at h8
  exact h8

theorem info_ver : (Tryd.prog.info? 81).map (fun i => (i.zero, i.size, i.bytes)) = some (some (.agg #[.string default, .int .i64 0, .int .i64 0, .int .i64 0, .bool false]), 5, 48) := by kernel_rfl

theorem cells_five (w : World) (n : Nat) (s : ByteArray) (c1 c2 c3 : Int) (t : TypeId) (hn : n = w.heap.size) : ∀ j u, [Value.string s, .int .i64 c1, .int .i64 c2, .int .i64 c3, .bool false][j]? = some u → (w.alloc (.cells #[.string s, .int .i64 c1, .int .i64 c2, .int .i64 c3, .bool false] t)).cell? ((⟨n, 0, none⟩ : Addr).add j) = some u := by
  subst hn
  intro j u hu
  have h : j < 5 := by have := (List.getElem?_eq_some_iff.1 hu).1; simpa using this
  have hb := Blk.made w #[.string s, .int .i64 c1, .int .i64 c2, .int .i64 c3, .bool false] t (fun i => [Value.string s, .int .i64 c1, .int .i64 c2, .int .i64 c3, .bool false].getD i default) 5 rfl (fun i hi => match i, hi with | 0, _ => rfl | 1, _ => rfl | 2, _ => rfl | 3, _ => rfl | 4, _ => rfl)
  rw [addr0, hb.cell h, List.getD_eq_getElem?_getD, hu]
  rfl

set_option maxHeartbeats 16000000 in
set_option maxRecDepth 100000 in
theorem version_first {val : ByteArray} {bg : Int} (h : Has o w0 w (.store b A)) (hT : TabAt w0) (ho : 0 ∉ o) (hfree : A.used + 3 ≤ A.size) (hval : val.size ≤ 64) (hb0 : 0 ≤ bg) (hb1 : bg < 18446744073709551616) (hbg : wBegins bg = true) (hnV : A.nV ≤ 1000000000) :
    Calls Tryd.prog 12 #[.pointer (some ⟨b, 0, none⟩), .string val, .int .u64 bg, .int .i64 (0)] w fun e w' => e = .returned (.tuple #[.int .i64 ((A.nV : Int) + 1), .int .i64 0]) ∧ ∃ st, Has o w0 w' (.store b (A.addVer st val bg (0))) := by
  obtain ⟨x, hr, h⟩ := h.stOpen
  have h2 := h.beside (wordsMade (w := w) #[.int .u64 bg, .int .u64 1099511627776, .int .u64 (0)] (verW bg (0)) 3 rfl (fun i hi => match i, hi with | 0, _ => rfl | 1, _ => rfl | 2, _ => rfl))
  have HTK := Lib.hid (take_ok h2 hT ho (by omega) (by rw [hr.count, hr.size]; exact hfree))
  have HR := Lib.hid hr
  have HBW := begins_walk w bg hb0 hb1
  rw [hbg] at HBW
  have HBW := Lib.hid HBW
  have d1 : decide ((val.size : Int) > 64) = false := by simp; omega
  have d1' : decide (val.size > 64) = false := by simp; omega
  obtain ⟨i0, hi0, hz0, hz1, hz2⟩ := info_parts info_ver
  clear h h2 hr hT ho hfree hbg
  go_enter Tryd.func12, Tryd.ntmps12
  go_wp2_with fail
  refine HBW.out.mono ?_
  rintro e w' ⟨rfl, rfl⟩
  go_wp2_with fail
  refine HTK.out.mono ?_
  rintro e w2 ⟨uv, cs, S', rfl, hcl, htk, hld, hX⟩
  obtain ⟨c1, c2, c3, rfl⟩ : ∃ c1 c2 c3, cs = [c1, c2, c3] := by
    match cs, hcl with
    | [c1, c2, c3], _ => exact ⟨c1, c2, c3, rfl⟩
  have hX2 : Has o w0 w2 ((StP b { x with S := S' } A).sep (.nums uv [c1, c2, c3])) := hX.weaken (Part.Imp.sep (Part.Imp.refl _) (Part.Imp.snd _ _))
  have HRN := Lib.hid (HR.out.addVer (val := val) htk hld ⟨hb0, hb1⟩ ⟨by omega, by omega, by omega⟩)
  obtain ⟨o3, h3, _⟩ := hX2.right
  obtain ⟨np, nc, rfl, _, _, hc⟩ := nums_open h3
  obtain ⟨g, rfl, hc2⟩ := hc (by simp)
  have y1 : w2.cell? ⟨g, 0, none⟩ = some (.int .i64 (c1 : Nat)) := hc2 0 (by simp)
  have y2 : w2.cell? ⟨g, 1, none⟩ = some (.int .i64 (c2 : Nat)) := hc2 1 (by simp)
  have y3 : w2.cell? ⟨g, 2, none⟩ = some (.int .i64 (c3 : Nat)) := hc2 2 (by simp)
  simp only [List.length_cons, List.length_nil] at *
  obtain ⟨o4, h4, _⟩ := hX2.left
  obtain ⟨_, _, y0, _⟩ := StP.fields h4
  obtain ⟨o5, h5⟩ := StP.vers h4
  have HROW := Lib.hid h5.rowsOwn
  have HX := Lib.hid hX2
  clear hX hX2 h3 h4 h5 hc hc2 hcl htk hld HTK
  go_wp2_with fail
  have HROW2 := Lib.hid (show w2.drew.ownsRow 0 81 5 x.vv A.nV (flatN A.nV (verF x.C A)) from HROW.out)
  have HXD := Lib.hid (HX.out.quiet ((Kept.refl [] w2).drew))
  have y0a : (w2.alloc (.cells #[.string val, .int .i64 (c1 : Nat), .int .i64 (c2 : Nat), .int .i64 (c3 : Nat), .bool false] 81)).cell? ⟨b, 2, none⟩ = some x.vv := ((Kept.refl [] w2).alloc _).cell y0 (by simp)
  go_region_law
    (refine step_append_new rfl (.tmp 48) (.tmp 60) 71 rfl 81 i0 (.agg #[.string default, .int .i64 0, .int .i64 0, .int .i64 0, .bool false]) 5 48 Tryd.underlying71 hi0 hz0 hz1 hz2 rfl (by decide) x.vv A.nV (flatN A.nV (verF x.C A)) rfl (HROW2.out.alloc _) ⟨_, 0, none⟩ 1 1 [.string val, .int .i64 (c1 : Nat), .int .i64 (c2 : Nat), .int .i64 (c3 : Nat), .bool false] rfl rfl (cells_five _ _ _ _ _ _ _ (by simp)) (by simp [Value.oneCell']) (by simp only [maxLen]; omega) (by omega) ?_
     intro v' w5 happ
     obtain ⟨⟨o7, h7⟩, z3, zf, hP⟩ := stp_moreVer (bg := bg) (nx := 0) S'.steps _ HXD.out happ
     obtain ⟨_, _, he7, _, _, hc7⟩ := nums_open h7
     obtain ⟨g7, hg7, hc7⟩ := hc7 (by simp)
     obtain rfl : g = g7 := by simp only [Value.slice.injEq] at he7; rw [← he7.1] at hg7; simpa using hg7
     have z1 : w5.cell? ⟨g, 0, none⟩ = some (.int .i64 (c1 : Nat)) := hc7 0 (by simp)
     have z2 : w5.cell? ⟨g, 1, none⟩ = some (.int .i64 (c2 : Nat)) := hc7 1 (by simp)
     have z4 : w5.cell? ⟨g, 2, none⟩ = some (.int .i64 (c3 : Nat)) := hc7 2 (by simp)
     obtain ⟨gv, vcap, rfl⟩ : ∃ gv vcap, v' = .slice (some ⟨gv, 0, none⟩) (A.nV + 1) vcap := by
       rcases rowN_open happ.row with ⟨_, h0⟩ | ⟨gv, vc, e, _⟩
       · omega
       · exact ⟨gv, vc, e⟩
     have HP := Lib.hid hP
     clear happ h7 he7 hc7 hP)
  all_goals (
    go_wp2_with fail
    go_ret2
    exact ⟨rfl, S'.steps, Has.stShut (x := { x with vv := .slice (some ⟨gv, 0, none⟩) (A.nV + 1) vcap, S := S', C := x.C.addVer A.nV c1 c2 c3 }) HRN.out HP.out.fst⟩)
end Go.Proofs.YtlaffmdflleeeaaDoor
