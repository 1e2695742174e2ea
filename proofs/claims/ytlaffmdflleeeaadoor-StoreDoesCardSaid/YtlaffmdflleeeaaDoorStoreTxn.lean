/- The walks of Txn and Forget. -/
import Derived.Test.YtlaffmdflleeeaaDoorStoreAway
import Derived.Test.YtlaffmdflleeeaaDoorStoreMake
namespace Go.Proofs.YtlaffmdflleeeaaDoor
open Go Go.RowKit
set_option linter.unusedVariables false

variable {o : List Nat} {w0 w : World} {b : Nat} {x : StIx} {A : ASt}

/-- One more transaction. -/
def ASt.addTxn (A : ASt) (st : Int) : ASt := { A with steps := st, nT := A.nT + 1, T := fun j => if j = A.nT then (0, false) else A.T j }
def Cells.addTxn (C : Cells) (n c1 : Nat) : Cells := { C with t := fun j => if j = n then c1 else C.t j }

theorem StRep.addTxn {S S' : Ar} {C : Cells} {A : ASt} {c1 : Nat} (h : StRep S C A) (ht : Took S [c1]) (hl : Laid S S' [c1] fun _ => 0) : StRep S' (C.addTxn A.nT c1) (A.addTxn S'.steps) := by
  have hver : ∀ i, i ≠ A.nT → (A.addTxn S'.steps).txn i = A.txn i := fun i hi => by
    unfold ASt.txn ASt.addTxn
    simp only [if_neg hi]
    by_cases h1 : i < A.nT
    · have : i < A.nT + 1 := by omega
      simp [h1, this]
    · have : ¬ i < A.nT + 1 := by omega
      simp [h1, this]
  have hver2 : (A.addTxn S'.steps).txn A.nT = true := by unfold ASt.txn ASt.addTxn; simp
  have hat : ∀ l v, (A.addTxn S'.steps).at_ l = some v → (A.at_ l = some v ∧ (C.addTxn A.nT c1).of l = C.of l) ∨ (l = .state A.nT ∧ v = 0) := by
    intro l v hv
    cases l with
    | head i => exact .inl ⟨hv, rfl⟩
    | lock i => exact .inl ⟨hv, rfl⟩
    | begin_ i => exact .inl ⟨hv, rfl⟩
    | end_ i => exact .inl ⟨hv, rfl⟩
    | next i => exact .inl ⟨hv, rfl⟩
    | state i =>
      by_cases e : i = A.nT
      · subst e; right
        simp only [ASt.at_, hver2, if_true] at hv
        simp [ASt.addTxn] at hv
        exact ⟨rfl, hv.symm⟩
      · left
        simp only [ASt.at_, hver i e] at hv ⊢
        simp only [ASt.addTxn, Cells.of, Cells.addTxn, if_neg e] at hv ⊢
        exact ⟨hv, trivial⟩
  refine h.ext ht hl (fun l i => l = .state A.nT ∧ i = 0) (fun l v hv => ?_) ?_ rfl rfl ?_ (fun i _ => by omega) (fun i v hv => ?_) (fun i v hv => ?_)
  · rcases hat l v hv with h1 | ⟨rfl, rfl⟩
    · exact .inl h1
    · exact .inr ⟨0, by simp, by simp [Cells.of, Cells.addTxn], rfl, rfl, rfl⟩
  · rintro l l' i ⟨rfl, rfl⟩ ⟨rfl, h2⟩; rfl
  · have e : cntB (fun i => !((A.addTxn S'.steps).T i).2) (A.nT + 1) = cntB (fun i => !(A.T i).2) A.nT + 1 := by
      have gen : ∀ m, m ≤ A.nT → cntB (fun i => !((A.addTxn S'.steps).T i).2) m = cntB (fun i => !(A.T i).2) m := by
        intro m
        induction m with
        | zero => intro _; rfl
        | succ m ih =>
          intro hm
          unfold cntB
          rw [ih (by omega)]
          simp only [ASt.addTxn, if_neg (show ¬ m = A.nT by omega)]
      rw [cntB, gen A.nT (Nat.le_refl _)]
      simp [ASt.addTxn]
    show 2 * A.nN + 3 * _ + cntB (fun i => !((A.addTxn S'.steps).T i).2) (A.nT + 1) = A.used + 1
    rw [e]
    unfold ASt.used; simp only [ASt.addTxn]; omega
  · rcases hat _ v hv with ⟨h1, _⟩ | ⟨h1, _⟩
    · exact h.headLe i v h1
    · cases h1
  · rcases hat _ v hv with ⟨h1, _⟩ | ⟨h1, _⟩
    · exact h.nextLe i v h1
    · cases h1

theorem stp_moreTxn {w5 : World} {B : Part} {v' : Value} {c1 : Nat} (st : Int) (ob : Obj) (h : Has o w0 w ((StP b x A).sep B))
    (happ : Appended (w.alloc ob) w5 91 2 x.tv v' (A.nT + 1) (flatN A.nT (txnF x.C A) ++ [.int .i64 (c1 : Nat), .bool false])) :
    (∃ o', Has o' w5 w5 B) ∧ w5.cell? ⟨b, 3, none⟩ = some x.tv ∧ w5.frozen? ⟨b, 3, none⟩ = false ∧ Has o w0 (w5.setCell ⟨b, 3, none⟩ v') ((StP b { x with tv := v', C := x.C.addTxn A.nT c1 } (A.addTxn st)).sep B) := by
  obtain ⟨o1, h1, _, _, b1⟩ := h.left
  obtain ⟨o2, h2, _, _, b2⟩ := h1.right
  obtain ⟨o3, h3, _, _, b3⟩ := h2.right
  obtain ⟨o4, h4, _, _, b4⟩ := h3.right
  have h4 := Has.rowsMore ob h4 happ
  have h5 := b2 _ _ (b3 _ _ (b4 _ _ h4))
  obtain ⟨o6, h6, _, _, b6⟩ := h5.left
  obtain ⟨o7, h7, _, _, b7⟩ := h6.left
  obtain ⟨c, z, hput⟩ := h7.blkAt (i := 3) (by omega)
  obtain ⟨oo, hoo, _⟩ := (b1 _ _ h5).right
  refine ⟨⟨oo, hoo⟩, c, z, b1 _ _ ?_⟩
  have h8 := b6 _ _ (b7 _ _ (hput v'))
  have e1 : ∀ i, i < 4 → upd (stF x.ab x.nv x.vv x.tv) 3 v' i = stF x.ab x.nv x.vv v' i := fun i hi => by
    unfold upd stF
    rcases (by omega : i = 0 ∨ i = 1 ∨ i = 2 ∨ i = 3) with rfl | rfl | rfl | rfl <;> simp
  have e2 : (fun d => if d = A.nT then [Value.int .i64 (c1 : Nat), .bool false] else txnF x.C A d) = txnF (x.C.addTxn A.nT c1) (A.addTxn st) := funext fun d => by
    unfold txnF Cells.addTxn ASt.addTxn
    by_cases e : d = A.nT <;> simp [e]
  rw [e2] at h8
  obtain ⟨fp, ⟨f, gg, ⟨f2, g2, ⟨hb, hfb⟩, hA, hd2, rfl⟩, hR, hd, rfl⟩, hn, kk⟩ := h8
  exact ⟨_, ⟨_, _, ⟨f2, g2, ⟨hb.congr e1, hfb⟩, hA, hd2, rfl⟩, hR, hd, rfl⟩, hn, kk⟩

theorem info_txn : (Tryd.prog.info? 91).map (fun i => (i.zero, i.size, i.bytes)) = some (some (.agg #[.int .i64 0, .bool false]), 2, 16) := by kernel_rfl

theorem cells_txn (w : World) (n : Nat) (c1 : Int) (t : TypeId) (hn : n = w.heap.size) : ∀ j u, [Value.int .i64 c1, .bool false][j]? = some u → (w.alloc (.cells #[.int .i64 c1, .bool false] t)).cell? ((⟨n, 0, none⟩ : Addr).add j) = some u := by
  subst hn
  intro j u hu
  have h : j < 2 := by have := (List.getElem?_eq_some_iff.1 hu).1; simpa using this
  have hb := Blk.made w #[.int .i64 c1, .bool false] t (fun i => [Value.int .i64 c1, .bool false].getD i default) 2 rfl (fun i hi => match i, hi with | 0, _ => rfl | 1, _ => rfl)
  rw [addr0, hb.cell h, List.getD_eq_getElem?_getD, hu]
  rfl

set_option maxHeartbeats 4000000 in
set_option maxRecDepth 100000 in
theorem txn_make (h : Has o w0 w (.store b A)) (hT : TabAt w0) (ho : 0 ∉ o) (hfree : A.used + 1 ≤ A.size) (hnT : A.nT + 1 < 1048576) :
    Calls Tryd.prog 22 #[.pointer (some ⟨b, 0, none⟩)] w fun e w' => e = .returned (.tuple #[.int .i64 ((A.nT : Int) + 1), .int .i64 0]) ∧ ∃ st, Has o w0 w' (.store b (A.addTxn st)) := by
  obtain ⟨x, hr, h⟩ := h.stOpen
  obtain ⟨_, _, _, y9⟩ := StP.fields h
  obtain ⟨o9, h9⟩ := StP.txns h
  obtain ⟨tp, tc, htv⟩ := h9.rowsSlice
  rw [htv] at y9
  have h2 := h.beside (wordsMade (w := w) #[.int .u64 0] (fun _ => 0) 1 rfl (fun i hi => match i, hi with | 0, _ => rfl))
  have HTK := Lib.hid (take_ok h2 hT ho (by omega) (by rw [hr.count, hr.size]; exact hfree))
  have HR := Lib.hid hr
  have HTV := Lib.hid htv
  have d1 : decide ((A.nT : Int) + 1 ≥ 1048576) = false := by simp; omega
  obtain ⟨i0, hi0, hz0, hz1, hz2⟩ := info_parts info_txn
  clear h h2 hr hT ho hfree h9 htv
  go_enter Tryd.func22, Tryd.ntmps22
  go_wp2_with fail
  refine HTK.out.mono ?_
  rintro e w2 ⟨uv, cs, S', rfl, hcl, htk, hld, hX⟩
  obtain ⟨c1, rfl⟩ : ∃ c1, cs = [c1] := by
    match cs, hcl with
    | [c1], _ => exact ⟨c1, rfl⟩
  have hX2 : Has o w0 w2 ((StP b { x with S := S' } A).sep (.nums uv [c1])) := hX.weaken (Part.Imp.sep (Part.Imp.refl _) (Part.Imp.snd _ _))
  have HRN := Lib.hid (HR.out.addTxn htk hld)
  obtain ⟨o3, h3, _⟩ := hX2.right
  obtain ⟨np, nc, rfl, _, _, hc⟩ := nums_open h3
  obtain ⟨g, rfl, hc2⟩ := hc (by simp)
  have y1 : w2.cell? ⟨g, 0, none⟩ = some (.int .i64 (c1 : Nat)) := hc2 0 (by simp)
  simp only [List.length_cons, List.length_nil] at *
  obtain ⟨o4, h4, _⟩ := hX2.left
  obtain ⟨_, _, _, y0⟩ := StP.fields h4
  obtain ⟨o5, h5⟩ := StP.txns h4
  have HROW := Lib.hid h5.rowsOwn
  have HX := Lib.hid hX2
  clear hX hX2 h3 h4 h5 hc hc2 hcl htk hld HTK
  go_wp2_with fail
  have HROW2 := Lib.hid (show w2.drew.ownsRow 0 91 2 x.tv A.nT (flatN A.nT (txnF x.C A)) from HROW.out)
  have HXD := Lib.hid (HX.out.quiet ((Kept.refl [] w2).drew))
  have y0a : (w2.alloc (.cells #[.int .i64 (c1 : Nat), .bool false] 91)).cell? ⟨b, 3, none⟩ = some x.tv := ((Kept.refl [] w2).alloc _).cell y0 (by simp)
  go_region_law
    (refine step_append_new rfl (.tmp 30) (.tmp 35) 72 rfl 91 i0 (.agg #[.int .i64 0, .bool false]) 2 16 Tryd.underlying72 hi0 hz0 hz1 hz2 rfl (by decide) x.tv A.nT (flatN A.nT (txnF x.C A)) rfl (HROW2.out.alloc _) ⟨_, 0, none⟩ 1 1 [.int .i64 (c1 : Nat), .bool false] rfl rfl (cells_txn _ _ _ _ (by simp)) (by simp [Value.oneCell']) (by simp only [maxLen]; omega) (by omega) ?_
     intro v' w5 happ
     obtain ⟨⟨o7, h7⟩, z3, zf, hP⟩ := stp_moreTxn S'.steps _ HXD.out happ
     obtain ⟨_, _, he7, _, _, hc7⟩ := nums_open h7
     obtain ⟨g7, hg7, hc7⟩ := hc7 (by simp)
     obtain rfl : g = g7 := by simp only [Value.slice.injEq] at he7; rw [← he7.1] at hg7; simpa using hg7
     have z1 : w5.cell? ⟨g, 0, none⟩ = some (.int .i64 (c1 : Nat)) := hc7 0 (by simp)
     obtain ⟨gv, vcap, rfl⟩ : ∃ gv vcap, v' = .slice (some ⟨gv, 0, none⟩) (A.nT + 1) vcap := by
       rcases rowN_open happ.row with ⟨_, h0⟩ | ⟨gv, vc, e, _⟩
       · omega
       · exact ⟨gv, vc, e⟩
     have HP := Lib.hid hP
     clear happ h7 he7 hc7 hP)
  all_goals (
    go_wp2_with fail
    go_ret2
    exact ⟨rfl, S'.steps, Has.stShut (x := { x with tv := .slice (some ⟨gv, 0, none⟩) (A.nT + 1) vcap, S := S', C := x.C.addTxn A.nT c1 }) HRN.out HP.out.fst⟩)
end Go.Proofs.YtlaffmdflleeeaaDoor
