/- The walks of what the reference makes (printed by mkrefmake.py). -/
import Derived.Test.YtlaffmdflleeeaaDoorRefOps11
import Derived.Test.YtlaffmdflleeeaaDoorStoreVer
import Derived.Test.YtlaffmdflleeeaaDoorStoreTxn
namespace Go.Proofs.YtlaffmdflleeeaaDoor
open Go Go.RowKit
set_option linter.unusedVariables false

variable {o : List Nat} {w0 w : World} {b : Nat} {x : RfIx} {A : ASt} {fr rs : Int}

theorem cells_any (w : World) (n : Nat) (cs : Array Value) (t : TypeId) (hn : n = w.heap.size) : ∀ j u, cs.toList[j]? = some u → (w.alloc (.cells cs t)).cell? ((⟨n, 0, none⟩ : Addr).add j) = some u := by
  subst hn
  intro j u hu
  have h : j < cs.size := by have := (List.getElem?_eq_some_iff.1 hu).1; simpa using this
  have hb := Blk.made w cs t (fun i => cs.toList.getD i default) cs.size rfl (fun i hi => by
    rw [List.getD_eq_getElem?_getD, Array.getElem?_toList, Array.getElem?_eq_getElem hi]; rfl)
  rw [addr0, hb.cell h, List.getD_eq_getElem?_getD, hu]
  rfl

theorem info_rnode : (Tryd.prog.info? 100).map (fun i => (i.zero, i.size, i.bytes)) = some (some (.agg #[.int .i64 0, .int .u64 0]), 2, 16) := by kernel_rfl
theorem info_rver : (Tryd.prog.info? 109).map (fun i => (i.zero, i.size, i.bytes)) = some (some (.agg #[.string default, .int .u64 0, .int .u64 0, .int .i64 0, .bool false]), 5, 48) := by kernel_rfl
theorem info_rtxn : (Tryd.prog.info? 111).map (fun i => (i.zero, i.size, i.bytes)) = some (some (.agg #[.int .u64 0, .bool false]), 2, 16) := by kernel_rfl

theorem addNode_free (A : ASt) (st : Int) : (A.addNode st).free = A.free - 2 := by
  unfold ASt.free ASt.used ASt.addNode; simp only; omega
theorem addVer_used2 (A : ASt) (st : Int) (val : ByteArray) (bg nx : Int) : (A.addVer st val bg nx).used = A.used + 3 := by
  have same : ∀ n, n ≤ A.nV → cntB (fun i => !((A.addVer st val bg nx).V i).gone) n = cntB (fun i => !(A.V i).gone) n := by
    intro n
    induction n with
    | zero => intro _; rfl
    | succ n ih =>
      intro hn
      unfold cntB
      rw [ih (by omega)]
      have : (A.addVer st val bg nx).V n = A.V n := by unfold ASt.addVer; simp only; rw [if_neg (by omega)]
      rw [this]
  unfold ASt.used
  show 2 * A.nN + 3 * cntB _ (A.nV + 1) + cntB (fun j => !(A.T j).2) A.nT = _
  rw [show ∀ p : Nat → Bool, cntB p (A.nV + 1) = cntB p A.nV + if p A.nV = true then 1 else 0 from fun _ => rfl, same _ (Nat.le_refl _)]
  have : (A.addVer st val bg nx).V A.nV = ⟨val, bg, 1099511627776, nx, false⟩ := by unfold ASt.addVer; simp
  rw [this]
  simp; omega
theorem addVer_free (A : ASt) (st : Int) (val : ByteArray) (bg nx : Int) : (A.addVer st val bg nx).free = A.free - 3 := by
  unfold ASt.free
  rw [addVer_used2]
  show (A.size : Int) - _ = _
  omega
theorem addTxn_used2 (A : ASt) (st : Int) : (A.addTxn st).used = A.used + 1 := by
  have same : ∀ n, n ≤ A.nT → cntB (fun i => !((A.addTxn st).T i).2) n = cntB (fun i => !(A.T i).2) n := by
    intro n
    induction n with
    | zero => intro _; rfl
    | succ n ih =>
      intro hn
      unfold cntB
      rw [ih (by omega)]
      have : (A.addTxn st).T n = A.T n := by unfold ASt.addTxn; simp only; rw [if_neg (by omega)]
      rw [this]
  unfold ASt.used
  show 2 * A.nN + 3 * cntB (fun i => !(A.V i).gone) A.nV + cntB _ (A.nT + 1) = _
  rw [show ∀ p : Nat → Bool, cntB p (A.nT + 1) = cntB p A.nT + if p A.nT = true then 1 else 0 from fun _ => rfl, same _ (Nat.le_refl _)]
  have : (A.addTxn st).T A.nT = (0, false) := by unfold ASt.addTxn; simp
  rw [this]
  simp; omega
theorem addTxn_free (A : ASt) (st : Int) : (A.addTxn st).free = A.free - 1 := by
  unfold ASt.free
  rw [addTxn_used2]
  show (A.size : Int) - _ = _
  omega

theorem RfP.moreNode {w5 : World} {v' : Value} (st : Int) (ob : Obj) (h : Has o w0 w (RfP b x A fr rs))
    (happ : Appended (w.alloc ob) w5 100 2 x.nv v' (A.nN + 1) (flatN A.nN (rnF A) ++ [.int .i64 0, .int .u64 0])) :
    w5.cell? ⟨b, 0, none⟩ = some x.nv ∧ w5.frozen? ⟨b, 0, none⟩ = false ∧ Has o w0 (w5.setCell ⟨b, 0, none⟩ v') (RfP b { x with nv := v' } (A.addNode st) fr rs) := by
  obtain ⟨o1, h1, _, _, b1⟩ := h.right
  obtain ⟨o2, h2, _, _, b2⟩ := h1.left
  have h4 := Has.rowsMore ob h2 happ
  have h5 := b1 _ _ (b2 _ _ h4)
  obtain ⟨o6, h6, _, _, b6⟩ := h5.left
  obtain ⟨c, z, hput⟩ := h6.blkAt (i := 0) (by omega)
  refine ⟨c, z, ?_⟩
  have e1 : ∀ i, i < 5 → upd (rfF x.nv x.vv x.tv fr rs) 0 v' i = rfF v' x.vv x.tv fr rs i := fun i hi => by
    unfold upd rfF
    rcases (by omega : i = 0 ∨ i = 1 ∨ i = 2 ∨ i = 3 ∨ i = 4) with rfl | rfl | rfl | rfl | rfl <;> simp
  have e2 : (fun d => if d = A.nN then [Value.int .i64 0, .int .u64 0] else rnF A d) = rnF (A.addNode st) := funext fun d => by
    unfold rnF ASt.addNode
    by_cases e : d = A.nN <;> simp [e]
  have h8 := b6 _ _ ((hput v').mono (B := .blk b 5 59 (rfF v' x.vv x.tv fr rs)) (by rintro fp ⟨hb, rfl⟩; exact ⟨hb.congr e1, rfl⟩))
  rw [e2] at h8
  exact h8

theorem RfP.moreVer {w5 : World} {v' : Value} {val : ByteArray} {bg nx : Int} (st : Int) (ob : Obj) (h : Has o w0 w (RfP b x A fr rs))
    (happ : Appended (w.alloc ob) w5 109 5 x.vv v' (A.nV + 1) (flatN A.nV (rvF A) ++ [.string val, .int .u64 bg, .int .u64 1099511627776, .int .i64 nx, .bool false])) :
    w5.cell? ⟨b, 1, none⟩ = some x.vv ∧ w5.frozen? ⟨b, 1, none⟩ = false ∧ Has o w0 (w5.setCell ⟨b, 1, none⟩ v') (RfP b { x with vv := v' } (A.addVer st val bg nx) fr rs) := by
  obtain ⟨o1, h1, _, _, b1⟩ := h.right
  obtain ⟨o2, h2, _, _, b2⟩ := h1.right
  obtain ⟨o3, h3, _, _, b3⟩ := h2.left
  have h4 := Has.rowsMore ob h3 happ
  have h5 := b1 _ _ (b2 _ _ (b3 _ _ h4))
  obtain ⟨o6, h6, _, _, b6⟩ := h5.left
  obtain ⟨c, z, hput⟩ := h6.blkAt (i := 1) (by omega)
  refine ⟨c, z, ?_⟩
  have e1 : ∀ i, i < 5 → upd (rfF x.nv x.vv x.tv fr rs) 1 v' i = rfF x.nv v' x.tv fr rs i := fun i hi => by
    unfold upd rfF
    rcases (by omega : i = 0 ∨ i = 1 ∨ i = 2 ∨ i = 3 ∨ i = 4) with rfl | rfl | rfl | rfl | rfl <;> simp
  have e2 : (fun d => if d = A.nV then [Value.string val, .int .u64 bg, .int .u64 1099511627776, .int .i64 nx, .bool false] else rvF A d) = rvF (A.addVer st val bg nx) := funext fun d => by
    unfold rvF ASt.addVer
    by_cases e : d = A.nV <;> simp [e]
  have h8 := b6 _ _ ((hput v').mono (B := .blk b 5 59 (rfF x.nv v' x.tv fr rs)) (by rintro fp ⟨hb, rfl⟩; exact ⟨hb.congr e1, rfl⟩))
  rw [e2] at h8
  exact h8

theorem RfP.moreTxn {w5 : World} {v' : Value} (st : Int) (ob : Obj) (h : Has o w0 w (RfP b x A fr rs))
    (happ : Appended (w.alloc ob) w5 111 2 x.tv v' (A.nT + 1) (flatN A.nT (rtF A) ++ [.int .u64 0, .bool false])) :
    w5.cell? ⟨b, 2, none⟩ = some x.tv ∧ w5.frozen? ⟨b, 2, none⟩ = false ∧ Has o w0 (w5.setCell ⟨b, 2, none⟩ v') (RfP b { x with tv := v' } (A.addTxn st) fr rs) := by
  obtain ⟨o1, h1, _, _, b1⟩ := h.right
  obtain ⟨o2, h2, _, _, b2⟩ := h1.right
  obtain ⟨o3, h3, _, _, b3⟩ := h2.right
  have h4 := Has.rowsMore ob h3 happ
  have h5 := b1 _ _ (b2 _ _ (b3 _ _ h4))
  obtain ⟨o6, h6, _, _, b6⟩ := h5.left
  obtain ⟨c, z, hput⟩ := h6.blkAt (i := 2) (by omega)
  refine ⟨c, z, ?_⟩
  have e1 : ∀ i, i < 5 → upd (rfF x.nv x.vv x.tv fr rs) 2 v' i = rfF x.nv x.vv v' fr rs i := fun i hi => by
    unfold upd rfF
    rcases (by omega : i = 0 ∨ i = 1 ∨ i = 2 ∨ i = 3 ∨ i = 4) with rfl | rfl | rfl | rfl | rfl <;> simp
  have e2 : (fun d => if d = A.nT then [Value.int .u64 0, .bool false] else rtF A d) = rtF (A.addTxn st) := funext fun d => by
    unfold rtF ASt.addTxn
    by_cases e : d = A.nT <;> simp [e]
  have h8 := b6 _ _ ((hput v').mono (B := .blk b 5 59 (rfF x.nv x.vv v' fr rs)) (by rintro fp ⟨hb, rfl⟩; exact ⟨hb.congr e1, rfl⟩))
  rw [e2] at h8
  exact h8

set_option maxHeartbeats 1000000 in
set_option maxRecDepth 100000 in
theorem rnode_full (h : Has o w0 w (.rstore b A rs)) (hf : A.free < 2) :
    Calls Tryd.prog 49 #[.pointer (some ⟨b, 0, none⟩)] w fun e w' => e = .returned (.tuple #[.int .i64 0, .int .i64 31]) ∧ w' = w := by
  obtain ⟨x, h⟩ := h.rfOpen
  obtain ⟨_, _, _, c3, _⟩ := RfP.fields h
  have d1 : decide (A.free < 2) = true := by simpa using hf
  clear h
  go_enter Tryd.func49, Tryd.ntmps49
  go_wp2_with fail
  go_ret2
  exact ⟨rfl, rfl⟩

set_option maxHeartbeats 1000000 in
set_option maxRecDepth 100000 in
theorem rtxn_full (h : Has o w0 w (.rstore b A rs)) (hf : A.free < 1 ∨ 1048576 ≤ (A.nT : Int) + 1) (hT9 : A.nT ≤ 1000000000) :
    Calls Tryd.prog 51 #[.pointer (some ⟨b, 0, none⟩)] w fun e w' => e = .returned (.tuple #[.int .i64 0, .int .i64 31]) ∧ w' = w := by
  obtain ⟨x, h⟩ := h.rfOpen
  obtain ⟨_, _, c2, c3, _⟩ := RfP.fields h
  obtain ⟨_, _, p, c, hv⟩ := RfP.slices h
  rw [hv] at c2
  clear h hv
  go_enter Tryd.func51, Tryd.ntmps51
  by_cases h1 : A.free < 1
  · have d1 : decide (A.free < 1) = true := by simpa using h1
    go_wp2_with fail
    go_ret2
    exact ⟨rfl, rfl⟩
  · have d1 : decide (A.free < 1) = false := by simpa using h1
    have d2 : decide ((A.nT : Int) + 1 ≥ 1048576) = true := by simp; omega
    go_wp2_with fail
    go_ret2
    exact ⟨rfl, rfl⟩

set_option maxHeartbeats 4000000 in
set_option maxRecDepth 100000 in
theorem rnode_make (h : Has o w0 w (.rstore b A rs)) (hf : 2 ≤ A.free) (hN9 : A.nN ≤ 1000000000) (hs9 : A.size ≤ 65536) (st : Int) :
    Calls Tryd.prog 49 #[.pointer (some ⟨b, 0, none⟩)] w fun e w' => e = .returned (.tuple #[.int .i64 ((A.nN : Int) + 1), .int .i64 0]) ∧ Has o w0 w' (.rstore b (A.addNode st) rs) := by
  obtain ⟨x, h⟩ := h.rfOpen
  obtain ⟨_, _, _, c3, _, zf⟩ := RfP.fields h
  have z3 := zf 3 (by omega)
  have hf9 : A.free ≤ 65536 := by unfold ASt.free; omega
  have d1 : decide (A.free < 2) = false := by simp; omega
  have hfree := addNode_free A st
  have HF := Lib.hid hfree
  have HS := Lib.hid (RfP.putFree h (A.free - 2))
  obtain ⟨i0, hi0, hz0, hz1, hz2⟩ := info_parts info_rnode
  clear h zf hfree
  go_enter Tryd.func49, Tryd.ntmps49
  generalize A.free = fr at *
  have y0 := (RfP.fields HS.out).1
  have HROW := Lib.hid (show (w.setCell ⟨b, 3, none⟩ (.int .i64 (fr - 2))).ownsRow 0 100 2 x.nv A.nN (flatN A.nN (rnF A)) from by obtain ⟨_, h5, _⟩ := RfP.nodes HS.out; exact h5.rowsOwn)
  have y0a : ((w.setCell ⟨b, 3, none⟩ (.int .i64 (fr - 2))).alloc (.cells #[.int .i64 0, .int .u64 0] 100)).cell? ⟨b, 0, none⟩ = some x.nv := (RfP.fields (HS.out.alloc _)).1
  go_wp2_with (at_builtin; refine wpList_append_new rfl (.tmp 21) (.tmp 23) 55 rfl 100 i0 (.agg #[.int .i64 0, .int .u64 0]) 2 16 Tryd.underlying55 hi0 hz0 hz1 hz2 rfl (by decide) _ _ _ rfl (HROW.out.alloc _) ⟨_, 0, none⟩ 1 1 [.int .i64 0, .int .u64 0] rfl rfl (cells_any _ _ #[.int .i64 0, .int .u64 0] _ (by simp)) (by simp [Value.oneCell']) (by simp only [maxLen]; omega) (by omega) ?_)
  intro v' w5 happ
  obtain ⟨e1, e2, hX⟩ := RfP.moreNode st _ HS.out happ
  obtain ⟨gv, vcap, rfl⟩ : ∃ gv vcap, v' = .slice (some ⟨gv, 0, none⟩) (A.nN + 1) vcap := by
    rcases rowN_open happ.row with ⟨_, h0⟩ | ⟨gv, vc, e, _⟩
    · omega
    · exact ⟨gv, vc, e⟩
  have HX := Lib.hid hX
  clear happ hX
  go_wp2_with fail
  go_ret2
  exact ⟨rfl, HX.out.rfShutAs HF.out.symm⟩

set_option maxHeartbeats 4000000 in
set_option maxRecDepth 100000 in
theorem rtxn_make (h : Has o w0 w (.rstore b A rs)) (hf : 1 ≤ A.free) (hT : (A.nT : Int) + 1 < 1048576) (hs9 : A.size ≤ 65536) (st : Int) :
    Calls Tryd.prog 51 #[.pointer (some ⟨b, 0, none⟩)] w fun e w' => e = .returned (.tuple #[.int .i64 ((A.nT : Int) + 1), .int .i64 0]) ∧ Has o w0 w' (.rstore b (A.addTxn st) rs) := by
  obtain ⟨x, h⟩ := h.rfOpen
  obtain ⟨_, _, c2, c3, _, zf⟩ := RfP.fields h
  obtain ⟨_, _, p, c, hv⟩ := RfP.slices h
  have z3 := zf 3 (by omega)
  have hf9 : A.free ≤ 65536 := by unfold ASt.free; omega
  have d1 : decide (A.free < 1) = false := by simp; omega
  have d2 : decide ((A.nT : Int) + 1 ≥ 1048576) = false := by simp; omega
  have hfree := addTxn_free A st
  have HF := Lib.hid hfree
  have HV := Lib.hid hv
  have HS := Lib.hid (RfP.putFree h (A.free - 1))
  obtain ⟨i0, hi0, hz0, hz1, hz2⟩ := info_parts info_rtxn
  rw [hv] at c2
  clear h zf hfree
  go_enter Tryd.func51, Tryd.ntmps51
  generalize A.free = fr at *
  have y0 := (RfP.fields HS.out).2.2.1
  have HROW := Lib.hid (show (w.setCell ⟨b, 3, none⟩ (.int .i64 (fr - 1))).ownsRow 0 111 2 x.tv A.nT (flatN A.nT (rtF A)) from by obtain ⟨_, h5, _⟩ := RfP.txns HS.out; exact h5.rowsOwn)
  have y0a : ((w.setCell ⟨b, 3, none⟩ (.int .i64 (fr - 1))).alloc (.cells #[.int .u64 0, .bool false] 111)).cell? ⟨b, 2, none⟩ = some x.tv := (RfP.fields (HS.out.alloc _)).2.2.1
  rw [hv] at y0 y0a HROW
  clear hv
  go_wp2_with (at_builtin; refine wpList_append_new rfl (.tmp 29) (.tmp 31) 57 rfl 111 i0 (.agg #[.int .u64 0, .bool false]) 2 16 Tryd.underlying57 hi0 hz0 hz1 hz2 rfl (by decide) _ _ _ rfl (HROW.out.alloc _) ⟨_, 0, none⟩ 1 1 [.int .u64 0, .bool false] rfl rfl (cells_any _ _ #[.int .u64 0, .bool false] _ (by simp)) (by simp [Value.oneCell']) (by simp only [maxLen]; omega) (by omega) ?_)
  intro v' w5 happ
  rw [← HV.out] at happ
  obtain ⟨e1, e2, hX⟩ := RfP.moreTxn st _ HS.out happ
  obtain ⟨gv, vcap, rfl⟩ : ∃ gv vcap, v' = .slice (some ⟨gv, 0, none⟩) (A.nT + 1) vcap := by
    rcases rowN_open happ.row with ⟨_, h0⟩ | ⟨gv, vc, e, _⟩
    · omega
    · exact ⟨gv, vc, e⟩
  have HX := Lib.hid hX
  clear happ hX
  go_wp2_with fail
  go_ret2
  exact ⟨rfl, HX.out.rfShutAs HF.out.symm⟩

set_option maxHeartbeats 4000000 in
set_option maxRecDepth 100000 in
theorem rversion_bad (h : Has o w0 w (.rstore b A rs)) (val : ByteArray) (bg nx : Int) (hb0 : 0 ≤ bg) (hb1 : bg < 18446744073709551616) (c : Int)
    (hc : (64 < val.size ∧ c = 111) ∨ (val.size ≤ 64 ∧ wBegins bg = false ∧ c = 50) ∨ (val.size ≤ 64 ∧ wBegins bg = true ∧ nx ≠ 0 ∧ A.isV nx = false ∧ c = 110) ∨ (val.size ≤ 64 ∧ wBegins bg = true ∧ (nx = 0 ∨ A.isV nx = true) ∧ A.free < 3 ∧ c = 31)) :
    Calls Tryd.prog 50 #[.pointer (some ⟨b, 0, none⟩), .string val, .int .u64 bg, .int .i64 nx] w fun e w' => e = .returned (.tuple #[.int .i64 0, .int .i64 c]) ∧ w' = w := by
  obtain ⟨x, h⟩ := h.rfOpen
  obtain ⟨_, _, _, c3, _, _⟩ := RfP.fields h
  have HB := Lib.hid (rbegins_walk w bg hb0 hb1)
  have HV := Lib.hid (rversion_walk h nx)
  clear h
  generalize wBegins bg = bb at *
  generalize A.isV nx = bv at *
  go_enter Tryd.func50, Tryd.ntmps50
  go_wp2_with fail
  refine HB.out.mono ?_
  rintro e w' ⟨rfl, rfl⟩
  go_wp2_with fail
  refine HV.out.mono ?_
  rintro e w' ⟨rfl, rfl⟩
  rcases hc with ⟨h1, rfl⟩ | ⟨h1, rfl, rfl⟩ | ⟨h1, rfl, h2, rfl, rfl⟩ | ⟨h1, rfl, h2, h3, rfl⟩
  · have d1 : decide ((val.size : Int) > 64) = true := by simp; omega
    have d1' : decide (val.size > 64) = true := by simp; omega
    go_wp2_with fail
    go_ret2
    exact ⟨rfl, rfl⟩
  · have d1 : decide ((val.size : Int) > 64) = false := by simp; omega
    have d1' : decide (val.size > 64) = false := by simp; omega
    go_wp2_with fail
    go_ret2
    exact ⟨rfl, rfl⟩
  · have d1 : decide ((val.size : Int) > 64) = false := by simp; omega
    have d1' : decide (val.size > 64) = false := by simp; omega
    have f1 : decide (nx = 0) = false := by simpa using h2
    have f2 : (nx == 0) = false := by simpa using h2
    have f3 : (nx != 0) = true := by simpa using h2
    go_wp2_with fail
    go_ret2
    exact ⟨rfl, rfl⟩
  · have d1 : decide ((val.size : Int) > 64) = false := by simp; omega
    have d1' : decide (val.size > 64) = false := by simp; omega
    have d2 : decide (A.free < 3) = true := by simpa using h3
    by_cases hx : nx = 0
    · subst hx
      go_wp2_with fail
      go_ret2
      exact ⟨rfl, rfl⟩
    · have f1 : decide (nx = 0) = false := by simpa using hx
      have f2 : (nx == 0) = false := by simpa using hx
      have f3 : (nx != 0) = true := by simpa using hx
      obtain rfl := h2.resolve_left hx
      go_wp2_with fail
      go_ret2
      exact ⟨rfl, rfl⟩

set_option maxHeartbeats 8000000 in
set_option maxRecDepth 100000 in
theorem rversion_make (h : Has o w0 w (.rstore b A rs)) {val : ByteArray} {bg nx : Int} (hb0 : 0 ≤ bg) (hb1 : bg < 18446744073709551616) (hval : val.size ≤ 64) (hbg : wBegins bg = true) (hnx : nx = 0 ∨ A.isV nx = true) (hf : 3 ≤ A.free) (hV9 : A.nV ≤ 1000000000) (hs9 : A.size ≤ 65536) (st : Int) :
    Calls Tryd.prog 50 #[.pointer (some ⟨b, 0, none⟩), .string val, .int .u64 bg, .int .i64 nx] w fun e w' => e = .returned (.tuple #[.int .i64 ((A.nV : Int) + 1), .int .i64 0]) ∧ Has o w0 w' (.rstore b (A.addVer st val bg nx) rs) := by
  obtain ⟨x, h⟩ := h.rfOpen
  obtain ⟨_, _, _, c3, _, zf⟩ := RfP.fields h
  have hB := rbegins_walk w bg hb0 hb1
  rw [hbg] at hB
  have HB := Lib.hid hB
  have HV := Lib.hid (rversion_walk h nx)
  have z3 := zf 3 (by omega)
  have hf9 : A.free ≤ 65536 := by unfold ASt.free; omega
  have d0 : decide (A.free < 3) = false := by simp; omega
  have hfree := addVer_free A st val bg nx
  have HF := Lib.hid hfree
  have HS := Lib.hid (RfP.putFree h (A.free - 3))
  obtain ⟨i0, hi0, hz0, hz1, hz2⟩ := info_parts info_rver
  have d1 : decide ((val.size : Int) > 64) = false := by simp; omega
  have d1' : decide (val.size > 64) = false := by simp; omega
  clear h zf hfree hB hbg
  generalize A.isV nx = bv at *
  go_enter Tryd.func50, Tryd.ntmps50
  generalize A.free = fr at *
  have y0 := (RfP.fields HS.out).2.1
  have HROW := Lib.hid (show (w.setCell ⟨b, 3, none⟩ (.int .i64 (fr - 3))).ownsRow 0 109 5 x.vv A.nV (flatN A.nV (rvF A)) from by obtain ⟨_, h5, _⟩ := RfP.vers HS.out; exact h5.rowsOwn)
  have y0a : ((w.setCell ⟨b, 3, none⟩ (.int .i64 (fr - 3))).alloc (.cells #[.string val, .int .u64 bg, .int .u64 1099511627776, .int .i64 nx, .bool false] 109)).cell? ⟨b, 1, none⟩ = some x.vv := (RfP.fields (HS.out.alloc _)).2.1
  go_wp2_with fail
  refine HB.out.mono ?_
  rintro e w' ⟨rfl, rfl⟩
  go_wp2_with fail
  refine HV.out.mono ?_
  rintro e w' ⟨rfl, rfl⟩
  have hsplit : nx = 0 ∨ (decide (nx = 0) = false ∧ (nx == 0) = false ∧ (nx != 0) = true ∧ bv = true) := by
    by_cases hx : nx = 0
    · exact .inl hx
    · exact .inr ⟨by simpa using hx, by simpa using hx, by simpa using hx, hnx.resolve_left hx⟩
  clear hnx
  rcases hsplit with rfl | ⟨f1, f2, f3, rfl⟩
  all_goals (
    go_wp2_with (at_builtin; refine wpList_append_new rfl (.tmp 49) (.tmp 54) 56 rfl 109 i0 (.agg #[.string default, .int .u64 0, .int .u64 0, .int .i64 0, .bool false]) 5 48 Tryd.underlying56 hi0 hz0 hz1 hz2 rfl (by decide) _ _ _ rfl (HROW.out.alloc _) ⟨_, 0, none⟩ 1 1 _ rfl rfl (cells_any _ _ #[.string val, .int .u64 bg, .int .u64 1099511627776, .int .i64 _, .bool false] _ (by simp)) (by simp [Value.oneCell']) (by simp only [maxLen]; omega) (by omega) ?_)
    intro v' w5 happ
    obtain ⟨e1, e2, hX⟩ := RfP.moreVer st _ HS.out happ
    obtain ⟨gv, vcap, rfl⟩ : ∃ gv vcap, v' = .slice (some ⟨gv, 0, none⟩) (A.nV + 1) vcap := by
      rcases rowN_open happ.row with ⟨_, h0⟩ | ⟨gv, vc, e, _⟩
      · omega
      · exact ⟨gv, vc, e⟩
    have HX := Lib.hid hX
    clear happ hX
    go_wp2_with fail
    go_ret2
    exact ⟨rfl, HX.out.rfShutAs HF.out.symm⟩)

end Go.Proofs.YtlaffmdflleeeaaDoor
