/- The walks of what the reference makes (printed by mkrefmake.py).
The walk of Version, where it makes one ahead of another one.
How many cells a store's arena has taken; a version and a push at any right number.
The plain law of StoreApart: which versions stand in a store that was filled by turns, what Cut and Drop leave. Nothing is claimed of a program here.
The plain law of StoreBack: a node that is filled, cut and dropped has as many cells as before. Nothing is claimed of a program here. -/
import Derived.Test.YtbodobdllchmgaaDoorMBetween7
import Derived.Test.YtbodobdllchmgaaDoorMBetween6
namespace Go.Proofs.YtbodobdllchmgaaDoor
open Go Go.RowKit
set_option linter.unusedVariables false

variable {o : List Nat} {w0 w : World} {b : Nat} {x : RfIx} {A : ASt} {fr rs : Int}

theorem cells_any (w : World) (n : Nat) (cs : Array Value) (t : TypeId) (hn : n = w.heap.size) : ∀ j u, cs.toList[j]? = some u → (w.alloc (.cells cs t)).cell? ((⟨n, 0, none⟩ : Addr).add j) = some u := by
  subst hn
  intro j u hu
  have h : j < cs.size := by have := (List.getElem?_eq_some_iff.1 hu).1; simpa using this
  have hb := Blk.made w cs t (fun i => cs.toList.getD i default) cs.size rfl (fun i hi => by
    rw [List.getD_eq_getElem?_getD, Array.getElem?_toList, Array.getElem?_eq_getElem hi]; rfl)
  rw [addr0, hb.cell h, List.getD_eq_getElem?_getD, hu]
  rfl

theorem info_rnode : (Tryd.prog.info? 77).map (fun i => (i.zero, i.size, i.bytes)) = some (some (.agg #[.int .i64 0, .int .u64 0]), 2, 16) := by kernel_rfl
theorem info_rver : (Tryd.prog.info? 82).map (fun i => (i.zero, i.size, i.bytes)) = some (some (.agg #[.string default, .int .u64 0, .int .u64 0, .int .i64 0, .bool false]), 5, 48) := by kernel_rfl
theorem info_rtxn : (Tryd.prog.info? 146).map (fun i => (i.zero, i.size, i.bytes)) = some (some (.agg #[.int .u64 0, .bool false]), 2, 16) := by kernel_rfl

theorem addNode_free (A : ASt) (st : Int) : (A.addNode st).free = A.free - 2 := by
  unfold ASt.free ASt.used ASt.addNode; simp only; omega
theorem addVer_used2 (A : ASt) (st : Int) (val : ByteArray) (bg nx : Int) : (A.addVer st val bg nx).used = A.used + 3 := by
  have same : ∀ n, n ≤ A.nV → cntB (fun i => !((A.addVer st val bg nx).V i).gone) n = cntB (fun i => !(A.V i).gone) n := by
    intro n
    induction n with
    | zero => intro _; rfl
    | succ n ih =>
      intro hn
      unfold cntB
      rw [ih (by omega)]
      have : (A.addVer st val bg nx).V n = A.V n := by unfold ASt.addVer; simp only; rw [if_neg (by omega)]
      rw [this]
  unfold ASt.used
  show 2 * A.nN + 3 * cntB _ (A.nV + 1) + cntB (fun j => !(A.T j).2) A.nT = _
  rw [show ∀ p : Nat → Bool, cntB p (A.nV + 1) = cntB p A.nV + if p A.nV = true then 1 else 0 from fun _ => rfl, same _ (Nat.le_refl _)]
  have : (A.addVer st val bg nx).V A.nV = ⟨val, bg, 1099511627776, nx, false⟩ := by unfold ASt.addVer; simp
  rw [this]
  simp; omega
theorem addVer_free (A : ASt) (st : Int) (val : ByteArray) (bg nx : Int) : (A.addVer st val bg nx).free = A.free - 3 := by
  unfold ASt.free
  rw [addVer_used2]
  show (A.size : Int) - _ = _
  omega
theorem addTxn_used2 (A : ASt) (st : Int) : (A.addTxn st).used = A.used + 1 := by
  have same : ∀ n, n ≤ A.nT → cntB (fun i => !((A.addTxn st).T i).2) n = cntB (fun i => !(A.T i).2) n := by
    intro n
    induction n with
    | zero => intro _; rfl
    | succ n ih =>
      intro hn
      unfold cntB
      rw [ih (by omega)]
      have : (A.addTxn st).T n = A.T n := by unfold ASt.addTxn; simp only; rw [if_neg (by omega)]
      rw [this]
  unfold ASt.used
  show 2 * A.nN + 3 * cntB (fun i => !(A.V i).gone) A.nV + cntB _ (A.nT + 1) = _
  rw [show ∀ p : Nat → Bool, cntB p (A.nT + 1) = cntB p A.nT + if p A.nT = true then 1 else 0 from fun _ => rfl, same _ (Nat.le_refl _)]
  have : (A.addTxn st).T A.nT = (0, false) := by unfold ASt.addTxn; simp
  rw [this]
  simp; omega
theorem addTxn_free (A : ASt) (st : Int) : (A.addTxn st).free = A.free - 1 := by
  unfold ASt.free
  rw [addTxn_used2]
  show (A.size : Int) - _ = _
  omega

theorem RfP.moreNode {w5 : World} {v' : Value} (st : Int) (ob : Obj) (h : Has o w0 w (RfP b x A fr rs))
    (happ : Appended (w.alloc ob) w5 77 2 x.nv v' (A.nN + 1) (flatN A.nN (rnF A) ++ [.int .i64 0, .int .u64 0])) :
    w5.cell? ⟨b, 0, none⟩ = some x.nv ∧ w5.frozen? ⟨b, 0, none⟩ = false ∧ Has o w0 (w5.setCell ⟨b, 0, none⟩ v') (RfP b { x with nv := v' } (A.addNode st) fr rs) := by
  obtain ⟨o1, h1, _, _, b1⟩ := h.right
  obtain ⟨o2, h2, _, _, b2⟩ := h1.left
  have h4 := Has.rowsMore ob h2 happ
  have h5 := b1 _ _ (b2 _ _ h4)
  obtain ⟨o6, h6, _, _, b6⟩ := h5.left
  obtain ⟨c, z, hput⟩ := h6.blkAt (i := 0) (by omega)
  refine ⟨c, z, ?_⟩
  have e1 : ∀ i, i < 5 → upd (rfF x.nv x.vv x.tv fr rs) 0 v' i = rfF v' x.vv x.tv fr rs i := fun i hi => by
    unfold upd rfF
    rcases (by omega : i = 0 ∨ i = 1 ∨ i = 2 ∨ i = 3 ∨ i = 4) with rfl | rfl | rfl | rfl | rfl <;> simp
  have e2 : (fun d => if d = A.nN then [Value.int .i64 0, .int .u64 0] else rnF A d) = rnF (A.addNode st) := funext fun d => by
    unfold rnF ASt.addNode
    by_cases e : d = A.nN <;> simp [e]
  have h8 := b6 _ _ ((hput v').mono (B := .blk b 5 73 (rfF v' x.vv x.tv fr rs)) (by rintro fp ⟨hb, rfl⟩; exact ⟨hb.congr e1, rfl⟩))
  rw [e2] at h8
  exact h8

theorem RfP.moreVer {w5 : World} {v' : Value} {val : ByteArray} {bg nx : Int} (st : Int) (ob : Obj) (h : Has o w0 w (RfP b x A fr rs))
    (happ : Appended (w.alloc ob) w5 82 5 x.vv v' (A.nV + 1) (flatN A.nV (rvF A) ++ [.string val, .int .u64 bg, .int .u64 1099511627776, .int .i64 nx, .bool false])) :
    w5.cell? ⟨b, 1, none⟩ = some x.vv ∧ w5.frozen? ⟨b, 1, none⟩ = false ∧ Has o w0 (w5.setCell ⟨b, 1, none⟩ v') (RfP b { x with vv := v' } (A.addVer st val bg nx) fr rs) := by
  obtain ⟨o1, h1, _, _, b1⟩ := h.right
  obtain ⟨o2, h2, _, _, b2⟩ := h1.right
  obtain ⟨o3, h3, _, _, b3⟩ := h2.left
  have h4 := Has.rowsMore ob h3 happ
  have h5 := b1 _ _ (b2 _ _ (b3 _ _ h4))
  obtain ⟨o6, h6, _, _, b6⟩ := h5.left
  obtain ⟨c, z, hput⟩ := h6.blkAt (i := 1) (by omega)
  refine ⟨c, z, ?_⟩
  have e1 : ∀ i, i < 5 → upd (rfF x.nv x.vv x.tv fr rs) 1 v' i = rfF x.nv v' x.tv fr rs i := fun i hi => by
    unfold upd rfF
    rcases (by omega : i = 0 ∨ i = 1 ∨ i = 2 ∨ i = 3 ∨ i = 4) with rfl | rfl | rfl | rfl | rfl <;> simp
  have e2 : (fun d => if d = A.nV then [Value.string val, .int .u64 bg, .int .u64 1099511627776, .int .i64 nx, .bool false] else rvF A d) = rvF (A.addVer st val bg nx) := funext fun d => by
    unfold rvF ASt.addVer
    by_cases e : d = A.nV <;> simp [e]
  have h8 := b6 _ _ ((hput v').mono (B := .blk b 5 73 (rfF x.nv v' x.tv fr rs)) (by rintro fp ⟨hb, rfl⟩; exact ⟨hb.congr e1, rfl⟩))
  rw [e2] at h8
  exact h8

theorem RfP.moreTxn {w5 : World} {v' : Value} (st : Int) (ob : Obj) (h : Has o w0 w (RfP b x A fr rs))
    (happ : Appended (w.alloc ob) w5 146 2 x.tv v' (A.nT + 1) (flatN A.nT (rtF A) ++ [.int .u64 0, .bool false])) :
    w5.cell? ⟨b, 2, none⟩ = some x.tv ∧ w5.frozen? ⟨b, 2, none⟩ = false ∧ Has o w0 (w5.setCell ⟨b, 2, none⟩ v') (RfP b { x with tv := v' } (A.addTxn st) fr rs) := by
  obtain ⟨o1, h1, _, _, b1⟩ := h.right
  obtain ⟨o2, h2, _, _, b2⟩ := h1.right
  obtain ⟨o3, h3, _, _, b3⟩ := h2.right
  have h4 := Has.rowsMore ob h3 happ
  have h5 := b1 _ _ (b2 _ _ (b3 _ _ h4))
  obtain ⟨o6, h6, _, _, b6⟩ := h5.left
  obtain ⟨c, z, hput⟩ := h6.blkAt (i := 2) (by omega)
  refine ⟨c, z, ?_⟩
  have e1 : ∀ i, i < 5 → upd (rfF x.nv x.vv x.tv fr rs) 2 v' i = rfF x.nv x.vv v' fr rs i := fun i hi => by
    unfold upd rfF
    rcases (by omega : i = 0 ∨ i = 1 ∨ i = 2 ∨ i = 3 ∨ i = 4) with rfl | rfl | rfl | rfl | rfl <;> simp
  have e2 : (fun d => if d = A.nT then [Value.int .u64 0, .bool false] else rtF A d) = rtF (A.addTxn st) := funext fun d => by
    unfold rtF ASt.addTxn
    by_cases e : d = A.nT <;> simp [e]
  have h8 := b6 _ _ ((hput v').mono (B := .blk b 5 73 (rfF x.nv x.vv v' fr rs)) (by rintro fp ⟨hb, rfl⟩; exact ⟨hb.congr e1, rfl⟩))
  rw [e2] at h8
  exact h8

set_option maxHeartbeats 1000000 in
set_option maxRecDepth 100000 in
theorem rnode_full (h : Has o w0 w (.rstore b A rs)) (hf : A.free < 2) :
    Calls Tryd.prog 36 #[.pointer (some ⟨b, 0, none⟩)] w fun e w' => e = .returned (.tuple #[.int .i64 0, .int .i64 31]) ∧ w' = w := by
  obtain ⟨x, h⟩ := h.rfOpen
  obtain ⟨_, _, _, c3, _⟩ := RfP.fields h
  have d1 : decide (A.free < 2) = true := by simpa using hf
  clear h
  go_enter Tryd.func36, Tryd.ntmps36
  go_wp2_with fail
  go_ret2
  exact ⟨rfl, rfl⟩

set_option maxHeartbeats 4000000 in
set_option maxRecDepth 100000 in
theorem rnode_make (h : Has o w0 w (.rstore b A rs)) (hf : 2 ≤ A.free) (hN9 : A.nN ≤ 1000000000) (hs9 : A.size ≤ 65536) (st : Int) :
    Calls Tryd.prog 36 #[.pointer (some ⟨b, 0, none⟩)] w fun e w' => e = .returned (.tuple #[.int .i64 ((A.nN : Int) + 1), .int .i64 0]) ∧ Has o w0 w' (.rstore b (A.addNode st) rs) := by
  obtain ⟨x, h⟩ := h.rfOpen
  obtain ⟨_, _, _, c3, _, zf⟩ := RfP.fields h
  have z3 := zf 3 (by omega)
  have hf9 : A.free ≤ 65536 := by unfold ASt.free; omega
  have d1 : decide (A.free < 2) = false := by simp; omega
  have hfree := addNode_free A st
  have HF := Lib.hid hfree
  have HS := Lib.hid (RfP.putFree h (A.free - 2))
  obtain ⟨i0, hi0, hz0, hz1, hz2⟩ := info_parts info_rnode
  clear h zf hfree
  go_enter Tryd.func36, Tryd.ntmps36
  generalize A.free = fr at *
  have y0 := (RfP.fields HS.out).1
  have HROW := Lib.hid (show (w.setCell ⟨b, 3, none⟩ (.int .i64 (fr - 2))).ownsRow 0 77 2 x.nv A.nN (flatN A.nN (rnF A)) from by obtain ⟨_, h5, _⟩ := RfP.nodes HS.out; exact h5.rowsOwn)
  have y0a : ((w.setCell ⟨b, 3, none⟩ (.int .i64 (fr - 2))).alloc (.cells #[.int .i64 0, .int .u64 0] 77)).cell? ⟨b, 0, none⟩ = some x.nv := (RfP.fields (HS.out.alloc _)).1
  go_wp2_with (at_builtin; refine wpList_append_new rfl (.tmp 21) (.tmp 23) 69 rfl 77 i0 (.agg #[.int .i64 0, .int .u64 0]) 2 16 Tryd.underlying69 hi0 hz0 hz1 hz2 rfl (by decide) _ _ _ rfl (HROW.out.alloc _) ⟨_, 0, none⟩ 1 1 [.int .i64 0, .int .u64 0] rfl rfl (cells_any _ _ #[.int .i64 0, .int .u64 0] _ (by simp)) (by simp [Value.oneCell']) (by simp only [maxLen]; omega) (by omega) ?_)
  intro v' w5 happ
  obtain ⟨e1, e2, hX⟩ := RfP.moreNode st _ HS.out happ
  obtain ⟨gv, vcap, rfl⟩ : ∃ gv vcap, v' = .slice (some ⟨gv, 0, none⟩) (A.nN + 1) vcap := by
    rcases rowN_open happ.row with ⟨_, h0⟩ | ⟨gv, vc, e, _⟩
    · omega
    · exact ⟨gv, vc, e⟩
  have HX := Lib.hid hX
  clear happ hX
  go_wp2_with fail
  go_ret2
  exact ⟨rfl, HX.out.rfShutAs HF.out.symm⟩

set_option maxHeartbeats 4000000 in
set_option maxRecDepth 100000 in
theorem rversion_bad (h : Has o w0 w (.rstore b A rs)) (val : ByteArray) (bg nx : Int) (hb0 : 0 ≤ bg) (hb1 : bg < 18446744073709551616) (c : Int)
    (hc : (64 < val.size ∧ c = 111) ∨ (val.size ≤ 64 ∧ wBegins bg = false ∧ c = 50) ∨ (val.size ≤ 64 ∧ wBegins bg = true ∧ nx ≠ 0 ∧ A.isV nx = false ∧ c = 110) ∨ (val.size ≤ 64 ∧ wBegins bg = true ∧ (nx = 0 ∨ A.isV nx = true) ∧ A.free < 3 ∧ c = 31)) :
    Calls Tryd.prog 37 #[.pointer (some ⟨b, 0, none⟩), .string val, .int .u64 bg, .int .i64 nx] w fun e w' => e = .returned (.tuple #[.int .i64 0, .int .i64 c]) ∧ w' = w := by
  obtain ⟨x, h⟩ := h.rfOpen
  obtain ⟨_, _, _, c3, _, _⟩ := RfP.fields h
  have HB := Lib.hid (rbegins_walk w bg hb0 hb1)
  have HV := Lib.hid (rversion_walk h nx)
  clear h
  generalize wBegins bg = bb at *
  generalize A.isV nx = bv at *
  go_enter Tryd.func37, Tryd.ntmps37
  go_wp2_with fail
  refine HB.out.mono ?_
  rintro e w' ⟨rfl, rfl⟩
  go_wp2_with fail
  refine HV.out.mono ?_
  rintro e w' ⟨rfl, rfl⟩
  rcases hc with ⟨h1, rfl⟩ | ⟨h1, rfl, rfl⟩ | ⟨h1, rfl, h2, rfl, rfl⟩ | ⟨h1, rfl, h2, h3, rfl⟩
  · have d1 : decide ((val.size : Int) > 64) = true := by simp; omega
    have d1' : decide (val.size > 64) = true := by simp; omega
    go_wp2_with fail
    go_ret2
    exact ⟨rfl, rfl⟩
  · have d1 : decide ((val.size : Int) > 64) = false := by simp; omega
    have d1' : decide (val.size > 64) = false := by simp; omega
    go_wp2_with fail
    go_ret2
    exact ⟨rfl, rfl⟩
  · have d1 : decide ((val.size : Int) > 64) = false := by simp; omega
    have d1' : decide (val.size > 64) = false := by simp; omega
    have f1 : decide (nx = 0) = false := by simpa using h2
    have f2 : (nx == 0) = false := by simpa using h2
    have f3 : (nx != 0) = true := by simpa using h2
    go_wp2_with fail
    go_ret2
    exact ⟨rfl, rfl⟩
  · have d1 : decide ((val.size : Int) > 64) = false := by simp; omega
    have d1' : decide (val.size > 64) = false := by simp; omega
    have d2 : decide (A.free < 3) = true := by simpa using h3
    by_cases hx : nx = 0
    · subst hx
      go_wp2_with fail
      go_ret2
      exact ⟨rfl, rfl⟩
    · have f1 : decide (nx = 0) = false := by simpa using hx
      have f2 : (nx == 0) = false := by simpa using hx
      have f3 : (nx != 0) = true := by simpa using hx
      obtain rfl := h2.resolve_left hx
      go_wp2_with fail
      go_ret2
      exact ⟨rfl, rfl⟩

set_option maxHeartbeats 8000000 in
set_option maxRecDepth 100000 in
theorem rversion_make (h : Has o w0 w (.rstore b A rs)) {val : ByteArray} {bg nx : Int} (hb0 : 0 ≤ bg) (hb1 : bg < 18446744073709551616) (hval : val.size ≤ 64) (hbg : wBegins bg = true) (hnx : nx = 0 ∨ A.isV nx = true) (hf : 3 ≤ A.free) (hV9 : A.nV ≤ 1000000000) (hs9 : A.size ≤ 65536) (st : Int) :
    Calls Tryd.prog 37 #[.pointer (some ⟨b, 0, none⟩), .string val, .int .u64 bg, .int .i64 nx] w fun e w' => e = .returned (.tuple #[.int .i64 ((A.nV : Int) + 1), .int .i64 0]) ∧ Has o w0 w' (.rstore b (A.addVer st val bg nx) rs) := by
  obtain ⟨x, h⟩ := h.rfOpen
  obtain ⟨_, _, _, c3, _, zf⟩ := RfP.fields h
  have hB := rbegins_walk w bg hb0 hb1
  rw [hbg] at hB
  have HB := Lib.hid hB
  have HV := Lib.hid (rversion_walk h nx)
  have z3 := zf 3 (by omega)
  have hf9 : A.free ≤ 65536 := by unfold ASt.free; omega
  have d0 : decide (A.free < 3) = false := by simp; omega
  have hfree := addVer_free A st val bg nx
  have HF := Lib.hid hfree
  have HS := Lib.hid (RfP.putFree h (A.free - 3))
  obtain ⟨i0, hi0, hz0, hz1, hz2⟩ := info_parts info_rver
  have d1 : decide ((val.size : Int) > 64) = false := by simp; omega
  have d1' : decide (val.size > 64) = false := by simp; omega
  clear h zf hfree hB hbg
  generalize A.isV nx = bv at *
  go_enter Tryd.func37, Tryd.ntmps37
  generalize A.free = fr at *
  have y0 := (RfP.fields HS.out).2.1
  have HROW := Lib.hid (show (w.setCell ⟨b, 3, none⟩ (.int .i64 (fr - 3))).ownsRow 0 82 5 x.vv A.nV (flatN A.nV (rvF A)) from by obtain ⟨_, h5, _⟩ := RfP.vers HS.out; exact h5.rowsOwn)
  have y0a : ((w.setCell ⟨b, 3, none⟩ (.int .i64 (fr - 3))).alloc (.cells #[.string val, .int .u64 bg, .int .u64 1099511627776, .int .i64 nx, .bool false] 82)).cell? ⟨b, 1, none⟩ = some x.vv := (RfP.fields (HS.out.alloc _)).2.1
  go_wp2_with fail
  refine HB.out.mono ?_
  rintro e w' ⟨rfl, rfl⟩
  go_wp2_with fail
  refine HV.out.mono ?_
  rintro e w' ⟨rfl, rfl⟩
  have hsplit : nx = 0 ∨ (decide (nx = 0) = false ∧ (nx == 0) = false ∧ (nx != 0) = true ∧ bv = true) := by
    by_cases hx : nx = 0
    · exact .inl hx
    · exact .inr ⟨by simpa using hx, by simpa using hx, by simpa using hx, hnx.resolve_left hx⟩
  clear hnx
  rcases hsplit with rfl | ⟨f1, f2, f3, rfl⟩
  all_goals (
    go_wp2_with (at_builtin; refine wpList_append_new rfl (.tmp 49) (.tmp 54) 70 rfl 82 i0 (.agg #[.string default, .int .u64 0, .int .u64 0, .int .i64 0, .bool false]) 5 48 Tryd.underlying70 hi0 hz0 hz1 hz2 rfl (by decide) _ _ _ rfl (HROW.out.alloc _) ⟨_, 0, none⟩ 1 1 _ rfl rfl (cells_any _ _ #[.string val, .int .u64 bg, .int .u64 1099511627776, .int .i64 _, .bool false] _ (by simp)) (by simp [Value.oneCell']) (by simp only [maxLen]; omega) (by omega) ?_)
    intro v' w5 happ
    obtain ⟨e1, e2, hX⟩ := RfP.moreVer st _ HS.out happ
    obtain ⟨gv, vcap, rfl⟩ : ∃ gv vcap, v' = .slice (some ⟨gv, 0, none⟩) (A.nV + 1) vcap := by
      rcases rowN_open happ.row with ⟨_, h0⟩ | ⟨gv, vc, e, _⟩
      · omega
      · exact ⟨gv, vc, e⟩
    have HX := Lib.hid hX
    clear happ hX
    go_wp2_with fail
    go_ret2
    exact ⟨rfl, HX.out.rfShutAs HF.out.symm⟩)

end Go.Proofs.YtbodobdllchmgaaDoor
namespace Go.Proofs.YtbodobdllchmgaaDoor
open Go Go.RowKit
set_option linter.unusedVariables false

variable {o : List Nat} {w0 w : World} {b : Nat} {A : ASt}

set_option maxHeartbeats 16000000 in
set_option maxRecDepth 100000 in
theorem version_next {val : ByteArray} {bg : Int} {j : Nat} (hj : A.ver j = true) (h : Has o w0 w (.store b A)) (hT : TabAt w0) (ho : 0 ∉ o) (hfree : A.used + 3 ≤ A.size) (hval : val.size ≤ 64) (hb0 : 0 ≤ bg) (hb1 : bg < 18446744073709551616) (hbg : wBegins bg = true) (hnV : A.nV ≤ 1000000000) :
    Calls Tryd.prog 26 #[.pointer (some ⟨b, 0, none⟩), .string val, .int .u64 bg, .int .i64 ((j : Int) + 1)] w fun e w' => e = .returned (.tuple #[.int .i64 ((A.nV : Int) + 1), .int .i64 0]) ∧ ∃ st, Has o w0 w' (.store b (A.addVer st val bg ((j : Int) + 1))) := by
  obtain ⟨x, hr, h⟩ := h.stOpen
  obtain ⟨g0, cap0, hvv0⟩ := StP.verSlice h (ver_lt hj)
  have HV := Lib.hid (version_at h j hj hvv0)
  have hjl := ver_lt hj
  have e1 : IntKind.u64.wrap ((j : Int) + 1) = (j : Int) + 1 := by unfold IntKind.wrap; simp [IntKind.bits, IntKind.signed]; omega
  have f1 : decide ((j : Int) + 1 = 0) = false := by simp; omega
  have f2 : ((j : Int) + 1 == 0) = false := by simp; omega
  clear hvv0
  have h2 := h.beside (wordsMade (w := w) #[.int .u64 bg, .int .u64 1099511627776, .int .u64 ((j : Int) + 1)] (verW bg ((j : Int) + 1)) 3 rfl (fun i hi => match i, hi with | 0, _ => rfl | 1, _ => rfl | 2, _ => rfl))
  have HTK := Lib.hid (take_ok h2 hT ho (by omega) (by rw [hr.count, hr.size]; exact hfree))
  have HR := Lib.hid hr
  have HBW := begins_walk w bg hb0 hb1
  rw [hbg] at HBW
  have HBW := Lib.hid HBW
  have d1 : decide ((val.size : Int) > 64) = false := by simp; omega
  have d1' : decide (val.size > 64) = false := by simp; omega
  obtain ⟨i0, hi0, hz0, hz1, hz2⟩ := info_parts info_ver
  clear h h2 hr hT ho hfree hbg
  go_enter Tryd.func26, Tryd.ntmps26
  go_wp2_with fail
  refine HBW.out.mono ?_
  rintro e w' ⟨rfl, rfl⟩
  go_wp2_with fail
  refine HV.out.mono ?_
  rintro e w' ⟨rfl, rfl⟩
  go_wp2_with fail
  refine HTK.out.mono ?_
  rintro e w2 ⟨uv, cs, S', rfl, hcl, htk, hld, hX⟩
  obtain ⟨c1, c2, c3, rfl⟩ : ∃ c1 c2 c3, cs = [c1, c2, c3] := by
    match cs, hcl with
    | [c1, c2, c3], _ => exact ⟨c1, c2, c3, rfl⟩
  have hX2 : Has o w0 w2 ((StP b { x with S := S' } A).sep (.nums uv [c1, c2, c3])) := hX.weaken (Part.Imp.sep (Part.Imp.refl _) (Part.Imp.snd _ _))
  have HRN := Lib.hid (HR.out.addVer (val := val) htk hld ⟨hb0, hb1⟩ ⟨by omega, by omega, by omega⟩)
  obtain ⟨o3, h3, _⟩ := hX2.right
  obtain ⟨np, nc, rfl, _, _, hc⟩ := nums_open h3
  obtain ⟨g, rfl, hc2⟩ := hc (by simp)
  have y1 : w2.cell? ⟨g, 0, none⟩ = some (.int .i64 (c1 : Nat)) := hc2 0 (by simp)
  have y2 : w2.cell? ⟨g, 1, none⟩ = some (.int .i64 (c2 : Nat)) := hc2 1 (by simp)
  have y3 : w2.cell? ⟨g, 2, none⟩ = some (.int .i64 (c3 : Nat)) := hc2 2 (by simp)
  simp only [List.length_cons, List.length_nil] at *
  obtain ⟨o4, h4, _⟩ := hX2.left
  obtain ⟨_, _, y0, _⟩ := StP.fields h4
  obtain ⟨o5, h5⟩ := StP.vers h4
  have HROW := Lib.hid h5.rowsOwn
  have HX := Lib.hid hX2
  clear hX hX2 h3 h4 h5 hc hc2 hcl htk hld HTK
  go_wp2_with fail
  have HROW2 := Lib.hid (show w2.drew.ownsRow 0 103 5 x.vv A.nV (flatN A.nV (verF x.C A)) from HROW.out)
  have HXD := Lib.hid (HX.out.quiet ((Kept.refl [] w2).drew))
  have y0a : (w2.alloc (.cells #[.string val, .int .i64 (c1 : Nat), .int .i64 (c2 : Nat), .int .i64 (c3 : Nat), .bool false] 103)).cell? ⟨b, 2, none⟩ = some x.vv := ((Kept.refl [] w2).alloc _).cell y0 (by simp)
  go_region_law
    (refine step_append_new rfl (.tmp 48) (.tmp 60) 91 rfl 103 i0 (.agg #[.string default, .int .i64 0, .int .i64 0, .int .i64 0, .bool false]) 5 48 Tryd.underlying91 hi0 hz0 hz1 hz2 rfl (by decide) x.vv A.nV (flatN A.nV (verF x.C A)) rfl (HROW2.out.alloc _) ⟨_, 0, none⟩ 1 1 [.string val, .int .i64 (c1 : Nat), .int .i64 (c2 : Nat), .int .i64 (c3 : Nat), .bool false] rfl rfl (cells_five _ _ _ _ _ _ _ (by simp)) (by simp [Value.oneCell']) (by simp only [maxLen]; omega) (by omega) ?_
     intro v' w5 happ
     obtain ⟨⟨o7, h7⟩, z3, zf, hP⟩ := stp_moreVer (bg := bg) (nx := (j : Int) + 1) S'.steps _ HXD.out happ
     obtain ⟨_, _, he7, _, _, hc7⟩ := nums_open h7
     obtain ⟨g7, hg7, hc7⟩ := hc7 (by simp)
     obtain rfl : g = g7 := by simp only [Value.slice.injEq] at he7; rw [← he7.1] at hg7; simpa using hg7
     have z1 : w5.cell? ⟨g, 0, none⟩ = some (.int .i64 (c1 : Nat)) := hc7 0 (by simp)
     have z2 : w5.cell? ⟨g, 1, none⟩ = some (.int .i64 (c2 : Nat)) := hc7 1 (by simp)
     have z4 : w5.cell? ⟨g, 2, none⟩ = some (.int .i64 (c3 : Nat)) := hc7 2 (by simp)
     obtain ⟨gv, vcap, rfl⟩ : ∃ gv vcap, v' = .slice (some ⟨gv, 0, none⟩) (A.nV + 1) vcap := by
       rcases rowN_open happ.row with ⟨_, h0⟩ | ⟨gv, vc, e, _⟩
       · omega
       · exact ⟨gv, vc, e⟩
     have HP := Lib.hid hP
     clear happ h7 he7 hc7 hP)
  all_goals (
    go_wp2_with fail
    go_ret2
    exact ⟨rfl, S'.steps, Has.stShut (x := { x with vv := .slice (some ⟨gv, 0, none⟩) (A.nV + 1) vcap, S := S', C := x.C.addVer A.nV c1 c2 c3 }) HRN.out HP.out.fst⟩)
end Go.Proofs.YtbodobdllchmgaaDoor
namespace Go.Proofs.YtbodobdllchmgaaDoor
open Go Go.RowKit
set_option linter.unusedVariables false

variable {o : List Nat} {w0 w : World} {b : Nat} {x : StIx} {A : ASt}

theorem used_at (h : Has o w0 w (.store b A)) :
    Calls Tryd.prog 19 #[.pointer (some ⟨A.ab, 0, none⟩)] w fun e w' => e = .returned (.int .i64 (A.used : Nat)) ∧ w' = w := by
  obtain ⟨x, hr, h⟩ := h.stOpen
  obtain ⟨o1, h1, _⟩ := h.left
  obtain ⟨o2, h2, _⟩ := h1.right
  obtain ⟨hab, h2⟩ := h2.whenOut
  rw [← hab, ← hr.count]
  refine (own_used (Has.own h2)).mono ?_
  rintro e w' ⟨rfl, rfl⟩
  exact ⟨rfl, rfl⟩

/-- A number that a version's next may have: none, or a version that is there. -/
def ASt.nxOk (A : ASt) (n : Int) : Prop := n = 0 ∨ ∃ j : Nat, n = (j : Int) + 1 ∧ A.ver j = true

theorem version_ok {val : ByteArray} {bg nx : Int} (hnx : A.nxOk nx) (h : Has o w0 w (.store b A)) (hT : TabAt w0) (ho : 0 ∉ o) (hfree : A.used + 3 ≤ A.size) (hval : val.size ≤ 64) (hb0 : 0 ≤ bg) (hb1 : bg < 18446744073709551616) (hbg : wBegins bg = true) (hnV : A.nV ≤ 1000000000) :
    Calls Tryd.prog 26 #[.pointer (some ⟨b, 0, none⟩), .string val, .int .u64 bg, .int .i64 nx] w fun e w' => e = .returned (.tuple #[.int .i64 ((A.nV : Int) + 1), .int .i64 0]) ∧ ∃ st, Has o w0 w' (.store b (A.addVer st val bg nx)) := by
  rcases hnx with rfl | ⟨j, rfl, hj⟩
  · exact version_first h hT ho hfree hval hb0 hb1 hbg hnV
  · exact version_next hj h hT ho hfree hval hb0 hb1 hbg hnV

theorem push_ok (h : Has o w0 w (.store b A)) (i j : Nat) (nx : Int) (hnx : A.nxOk nx) (hl : A.at_ (.head i) = some nx) (hj : A.ver j = true) (hV : A.nV ≤ 1000000000) :
    Calls Tryd.prog 27 #[.pointer (some ⟨b, 0, none⟩), .int .i64 ((i : Int) + 1), .int .i64 nx, .int .i64 ((j : Int) + 1)] w fun e w' => e = .returned (.tuple #[.bool true, .int .i64 0]) ∧ Has o w0 w' (.store b (A.step.set (.head i) ((j : Int) + 1))) := by
  rcases hnx with rfl | ⟨k, rfl, hk⟩
  · exact push_first h i j hl hj hV
  · exact push_over h i j k hk hl hj hV
end Go.Proofs.YtbodobdllchmgaaDoor
namespace Go.Proofs.YtbodobdllchmgaaDoor
open Go Go.RowKit
set_option linter.unusedVariables false

/-- The number at the head of the first node, whose versions stand at 2·lo .. 2·(hi-1). -/
def xh (lo hi : Nat) : Int := if lo < hi then 2 * (hi : Int) - 1 else 0
/-- Its chain. -/
def xdn (lo : Nat) : Nat → List Nat
  | 0 => []
  | h + 1 => if lo ≤ h then (2 * h + 1) :: xdn lo h else []
/-- The second node's chain. -/
def ydn : Nat → List Nat
  | 0 => []
  | h + 1 => (2 * h + 2) :: ydn h

theorem xdn_len (lo h : Nat) : (xdn lo h).length = h - lo := by
  induction h with
  | zero => simp [xdn]
  | succ h ih =>
    unfold xdn
    by_cases e : lo ≤ h
    · rw [if_pos e, List.length_cons, ih]; omega
    · rw [if_neg e]; simp; omega
theorem xdn_get (lo h c : Nat) (hc : c < h - lo) : (xdn lo h)[c]? = some (2 * (h - c) - 1) := by
  induction h generalizing c with
  | zero => omega
  | succ h ih =>
    unfold xdn
    rw [if_pos (by omega)]
    cases c with
    | zero => simp; omega
    | succ c =>
      rw [List.getElem?_cons_succ, ih c (by omega)]
      congr 1; omega
theorem xdn_mem (lo h v : Nat) (hv : v ∈ xdn lo h) : ∃ q, q < h ∧ lo ≤ q ∧ v = 2 * q + 1 := by
  induction h with
  | zero => simp [xdn] at hv
  | succ h ih =>
    unfold xdn at hv
    by_cases e : lo ≤ h
    · rw [if_pos e] at hv
      rcases List.mem_cons.1 hv with rfl | hv
      · exact ⟨h, by omega, e, rfl⟩
      · obtain ⟨q, h1, h2, h3⟩ := ih hv
        exact ⟨q, by omega, h2, h3⟩
    · rw [if_neg e] at hv; simp at hv
theorem ydn_len (h : Nat) : (ydn h).length = h := by
  induction h with
  | zero => rfl
  | succ h ih => unfold ydn; rw [List.length_cons, ih]
theorem ydn_get (h c : Nat) (hc : c < h) : (ydn h)[c]? = some (2 * (h - c)) := by
  induction h generalizing c with
  | zero => omega
  | succ h ih =>
    unfold ydn
    cases c with
    | zero => simp; omega
    | succ c =>
      rw [List.getElem?_cons_succ, ih c (by omega)]
      congr 1; omega

/-- A store with two nodes, of which the first has its versions at 2·lo .. 2·(hi-1), the other all m at odd places. -/
structure ApSt (m lo hi : Nat) (A : ASt) : Prop where
  nN : A.nN = 2
  nV : A.nV = 2 * m
  le : lo ≤ hi
  top : hi ≤ m
  hx : A.at_ (.head 0) = some (xh lo hi)
  hy : A.at_ (.head 1) = some (2 * (m : Int))
  ye : ∀ j, j < m → A.at_ (.end_ (2 * j + 1)) = some 1099511627776
  yn : ∀ j, j < m → A.at_ (.next (2 * j + 1)) = some (2 * (j : Int))
  xn : ∀ j, lo ≤ j → j < hi → A.at_ (.next (2 * j)) = some (xh lo j)

theorem at_begin_val {A : ASt} {i : Nat} (hv : A.ver i = true) : A.at_ (.begin_ i) = some (A.V i).begin_ := by show (if A.ver i = true then some (A.V i).begin_ else none) = _; rw [if_pos hv]
theorem at_end_val {A : ASt} {i : Nat} (hv : A.ver i = true) : A.at_ (.end_ i) = some (A.V i).end_ := by show (if A.ver i = true then some (A.V i).end_ else none) = _; rw [if_pos hv]
theorem at_next_val {A : ASt} {i : Nat} (hv : A.ver i = true) : A.at_ (.next i) = some (A.V i).next := by show (if A.ver i = true then some (A.V i).next else none) = _; rw [if_pos hv]

theorem next_in {A : ASt} {i : Nat} {v : Int} (h : A.at_ (.next i) = some v) : A.ver i = true ∧ (A.V i).next = v := by
  have hv := at_next h
  exact ⟨hv, Option.some.inj ((at_next_val hv).symm.trans h)⟩

theorem chain_zero (A : ASt) (f : Nat) (n : Int) (h : n ≤ 0) : chainF A f n = [] := chainF_stop (by omega)

theorem ApSt.ychain {m lo hi : Nat} {A : ASt} (h : ApSt m lo hi A) (t f : Nat) (ht : t ≤ m) (hf : t ≤ f) : chainF A f (2 * (t : Int)) = ydn t := by
  induction t generalizing f with
  | zero => exact chain_zero A f _ (by omega)
  | succ t ih =>
    obtain ⟨f, rfl⟩ : ∃ f', f = f' + 1 := ⟨f - 1, by omega⟩
    obtain ⟨hv, hn⟩ := next_in (h.yn t (by omega))
    rw [show (2 * ((t + 1 : Nat) : Int)) = ((2 * t + 1 : Nat) : Int) + 1 by omega, chainF_go hv, hn, ih f (by omega) (by omega)]
    rfl
theorem ApSt.xchain {m lo hi : Nat} {A : ASt} (h : ApSt m lo hi A) (t f : Nat) (ht : t ≤ hi) (hf : t - lo ≤ f) : chainF A f (xh lo t) = xdn lo t := by
  induction t generalizing f with
  | zero =>
    rw [show xh lo 0 = 0 from if_neg (by omega)]
    exact chain_zero A f _ (by omega)
  | succ t ih =>
    by_cases e : lo ≤ t
    · obtain ⟨f, rfl⟩ : ∃ f', f = f' + 1 := ⟨f - 1, by omega⟩
      obtain ⟨hv, hn⟩ := next_in (h.xn t e (by omega))
      rw [show xh lo (t + 1) = ((2 * t : Nat) : Int) + 1 by rw [xh, if_pos (by omega)]; omega, chainF_go hv, hn, ih f (by omega) (by omega)]
      show _ = if lo ≤ t then _ else _
      rw [if_pos e]
    · rw [show xh lo (t + 1) = 0 from if_neg (by omega)]
      show _ = if lo ≤ t then _ else _
      rw [if_neg e]
      exact chain_zero A f _ (by omega)

theorem ApSt.xnx {m lo hi : Nat} {A : ASt} (h : ApSt m lo hi A) : A.nxOk (xh lo hi) := by
  have := h.le
  by_cases e : lo < hi
  · refine .inr ⟨2 * (hi - 1), ?_, at_next (h.xn (hi - 1) (by omega) (by omega))⟩
    rw [xh, if_pos e]; omega
  · exact .inl (if_neg e)
theorem ApSt.ynx {m lo hi : Nat} {A : ASt} (h : ApSt m lo hi A) : A.nxOk (2 * (m : Int)) := by
  by_cases e : m = 0
  · exact .inl (by omega)
  · exact .inr ⟨2 * (m - 1) + 1, by omega, at_next (h.yn (m - 1) (by omega))⟩

/-- What a further version leaves. -/
theorem addVer_at (A : ASt) (st : Int) (val : ByteArray) (bg nx : Int) (l : Loc) (v : Int) (h : A.at_ l = some v) : (A.addVer st val bg nx).at_ l = some v := by
  have hver : ∀ i, A.ver i = true → (A.addVer st val bg nx).ver i = true ∧ (A.addVer st val bg nx).V i = A.V i := fun i hi => by
    have hl := ver_lt hi
    unfold ASt.ver at hi ⊢
    unfold ASt.addVer
    simp only
    rw [if_neg (by omega)]
    refine ⟨?_, rfl⟩
    simp at hi ⊢
    exact ⟨by omega, hi.2⟩
  cases l with
  | head i => exact h
  | lock i => exact h
  | state i => exact h
  | begin_ i =>
    obtain ⟨h1, h2⟩ := hver i (at_begin h)
    show (if _ then _ else _) = _
    rw [if_pos h1, h2]
    exact (at_begin_val (at_begin h)).symm.trans h
  | end_ i =>
    obtain ⟨h1, h2⟩ := hver i (at_end h)
    show (if _ then _ else _) = _
    rw [if_pos h1, h2]
    exact (at_end_val (at_end h)).symm.trans h
  | next i =>
    obtain ⟨h1, h2⟩ := hver i (at_next h)
    show (if _ then _ else _) = _
    rw [if_pos h1, h2]
    exact (at_next_val (at_next h)).symm.trans h
theorem addVer_new (A : ASt) (st : Int) (val : ByteArray) (bg nx : Int) : (A.addVer st val bg nx).ver A.nV = true ∧ (A.addVer st val bg nx).at_ (.begin_ A.nV) = some bg ∧ (A.addVer st val bg nx).at_ (.end_ A.nV) = some 1099511627776 ∧ (A.addVer st val bg nx).at_ (.next A.nV) = some nx := by
  have hv : (A.addVer st val bg nx).ver A.nV = true := by unfold ASt.ver ASt.addVer; simp
  have e : (A.addVer st val bg nx).V A.nV = ⟨val, bg, 1099511627776, nx, false⟩ := by unfold ASt.addVer; simp
  refine ⟨hv, ?_, ?_, ?_⟩ <;> (show (if _ then _ else _) = _) <;> rw [if_pos hv, e]
theorem addVer_used (A : ASt) (st : Int) (val : ByteArray) (bg nx : Int) : (A.addVer st val bg nx).used = A.used + 3 := by
  unfold ASt.used
  have e : cntB (fun i => !((A.addVer st val bg nx).V i).gone) (A.nV + 1) = cntB (fun i => !(A.V i).gone) A.nV + 1 := by
    have same : ∀ n, n ≤ A.nV → cntB (fun i => !((A.addVer st val bg nx).V i).gone) n = cntB (fun i => !(A.V i).gone) n := by
      intro n
      induction n with
      | zero => intro _; rfl
      | succ n ih =>
        intro hn
        unfold cntB
        rw [ih (by omega)]
        have : (A.addVer st val bg nx).V n = A.V n := by unfold ASt.addVer; simp only; rw [if_neg (by omega)]
        rw [this]
    rw [show ∀ p : Nat → Bool, cntB p (A.nV + 1) = cntB p A.nV + if p A.nV = true then 1 else 0 from fun _ => rfl, same _ (Nat.le_refl _)]
    have : (A.addVer st val bg nx).V A.nV = ⟨val, bg, 1099511627776, nx, false⟩ := by unfold ASt.addVer; simp
    rw [this]; rfl
  show 2 * A.nN + 3 * cntB _ (A.nV + 1) + _ = _
  rw [e]
  show 2 * A.nN + 3 * _ + cntB (fun i => !(A.T i).2) A.nT = _
  omega

/-- A fresh store with two nodes. -/
theorem ApSt.start (ab : Nat) (s1 s2 : Int) : ApSt 0 0 0 (((newSt ab 1000 0).addNode s1).addNode s2) := by
  refine ⟨rfl, rfl, Nat.le_refl _, Nat.le_refl _, rfl, rfl, fun j hj => ?_, fun j hj => ?_, fun j h0 hj => ?_⟩ <;> omega

theorem nxOk_addVer {A : ASt} {n : Int} (h : A.nxOk n) (st : Int) (val : ByteArray) (bg nx : Int) : (A.addVer st val bg nx).nxOk n := by
  rcases h with h | ⟨j, h1, h2⟩
  · exact .inl h
  · refine .inr ⟨j, h1, ?_⟩
    have hl := ver_lt h2
    unfold ASt.ver at h2 ⊢
    unfold ASt.addVer
    simp only
    rw [if_neg (by omega)]
    simp at h2 ⊢
    exact ⟨by omega, h2.2⟩

theorem set_other {A : ASt} {l l' : Loc} {u v : Int} (h : A.at_ l' = some v) (hne : l' ≠ l) : (A.set l u).at_ l' = some v := by rw [A.at_set, if_neg hne]; exact h
theorem set_here {A : ASt} {l : Loc} {u v : Int} (h : A.at_ l = some v) : (A.set l u).at_ l = some u := by rw [A.at_set, if_pos rfl, h]; rfl

/-- A round: a version more for each. -/
theorem ApSt.grow {m : Nat} {A : ASt} (h : ApSt m 0 m A) (s1 s2 : Int) (val : ByteArray) (bg : Int) :
    ApSt (m + 1) 0 (m + 1) ((((((A.addVer s1 val bg (xh 0 m)).addVer s2 val bg (2 * (m : Int))).step).set (.head 0) (2 * (m : Int) + 1)).step).set (.head 1) (2 * (m : Int) + 2)) := by
  have hV1 : (A.addVer s1 val bg (xh 0 m)).nV = 2 * m + 1 := by show A.nV + 1 = _; rw [h.nV]
  obtain ⟨v1, b1, e1, n1⟩ := addVer_new A s1 val bg (xh 0 m)
  obtain ⟨v2, b2, e2, n2⟩ := addVer_new (A.addVer s1 val bg (xh 0 m)) s2 val bg (2 * (m : Int))
  rw [hV1] at v2 b2 e2 n2
  rw [h.nV] at v1 b1 e1 n1
  have old : ∀ l v, A.at_ l = some v → ((A.addVer s1 val bg (xh 0 m)).addVer s2 val bg (2 * (m : Int))).at_ l = some v := fun l v hl => addVer_at _ _ _ _ _ _ _ (addVer_at _ _ _ _ _ _ _ hl)
  have put : ∀ l v, ((A.addVer s1 val bg (xh 0 m)).addVer s2 val bg (2 * (m : Int))).at_ l = some v → l ≠ .head 0 → l ≠ .head 1 → ((((((A.addVer s1 val bg (xh 0 m)).addVer s2 val bg (2 * (m : Int))).step).set (.head 0) (2 * (m : Int) + 1)).step).set (.head 1) (2 * (m : Int) + 2)).at_ l = some v := by
    intro l v hl h0 h1
    refine set_other ?_ h1
    show ((((A.addVer s1 val bg (xh 0 m)).addVer s2 val bg (2 * (m : Int))).step).set (.head 0) (2 * (m : Int) + 1)).at_ l = some v
    exact set_other hl h0
  refine ⟨?_, ?_, by omega, by omega, ?_, ?_, fun j hj => ?_, fun j hj => ?_, fun j h0 hj => ?_⟩
  · rw [ASt.nN_set]; show (ASt.set _ _ _).nN = _; rw [ASt.nN_set]; exact h.nN
  · rw [ASt.nV_set]; show (ASt.set _ _ _).nV = _; rw [ASt.nV_set]; show A.nV + 1 + 1 = _; rw [h.nV]; omega
  · refine set_other ?_ (by simp)
    rw [show xh 0 (m + 1) = 2 * (m : Int) + 1 by rw [xh, if_pos (by omega)]; omega]
    exact set_here (v := xh 0 m) (old _ _ h.hx)
  · rw [show (2 * ((m + 1 : Nat) : Int)) = 2 * (m : Int) + 2 by omega]
    refine set_here (v := 2 * (m : Int)) ?_
    have h5 := set_other (l := .head 0) (u := 2 * (m : Int) + 1) (old _ _ h.hy) (by simp)
    exact h5
  · refine put _ _ ?_ (by simp) (by simp)
    by_cases e : j = m
    · subst e; exact e2
    · exact old _ _ (h.ye j (by omega))
  · refine put _ _ ?_ (by simp) (by simp)
    by_cases e : j = m
    · subst e; exact n2
    · exact old _ _ (h.yn j (by omega))
  · refine put _ _ ?_ (by simp) (by simp)
    by_cases e : j = m
    · subst e; exact addVer_at _ _ _ _ _ _ _ n1
    · exact old _ _ (h.xn j h0 (by omega))
theorem ApSt.growUsed {m : Nat} {A : ASt} (s1 s2 : Int) (val : ByteArray) (bg n1 n2 u1 u2 : Int) :
    ((((((A.addVer s1 val bg n1).addVer s2 val bg n2).step).set (.head 0) u1).step).set (.head 1) u2).used = A.used + 6 ∧ ((((((A.addVer s1 val bg n1).addVer s2 val bg n2).step).set (.head 0) u1).step).set (.head 1) u2).size = A.size := by
  constructor
  · rw [ASt.used_set]
    show (ASt.set _ _ _).used = _
    rw [ASt.used_set]
    show ((A.addVer s1 val bg n1).addVer s2 val bg n2).used = _
    rw [addVer_used, addVer_used]
  · rw [ASt.size_set]
    show (ASt.set _ _ _).size = _
    rw [ASt.size_set]; rfl

/-- Other numbers of steps. -/
theorem ApSt.at {m lo hi : Nat} {A : ASt} (h : ApSt m lo hi A) (st : Int) : ApSt m lo hi (A.at st) := ⟨h.nN, h.nV, h.le, h.top, h.hx, h.hy, h.ye, h.yn, h.xn⟩

theorem goneV_keep {A : ASt} {i : Nat} {l : Loc} {v : Int} (h : A.at_ l = some v) (h1 : l ≠ .begin_ i) (h2 : l ≠ .end_ i) (h3 : l ≠ .next i) : (A.goneV i).at_ l = some v := by
  have hver : ∀ j, j ≠ i → A.ver j = true → (A.goneV i).ver j = true ∧ (A.goneV i).V j = A.V j := fun j hj hv => by
    rw [goneV_ver, hv]
    refine ⟨by simp [hj], ?_⟩
    unfold ASt.goneV; simp only; rw [if_neg hj]
  cases l with
  | head i => exact h
  | lock i => exact h
  | state i => exact h
  | begin_ j =>
    obtain ⟨g1, g2⟩ := hver j (fun e => h1 (by rw [e])) (at_begin h)
    show (if _ then _ else _) = _
    rw [if_pos g1, g2]
    exact (at_begin_val (at_begin h)).symm.trans h
  | end_ j =>
    obtain ⟨g1, g2⟩ := hver j (fun e => h2 (by rw [e])) (at_end h)
    show (if _ then _ else _) = _
    rw [if_pos g1, g2]
    exact (at_end_val (at_end h)).symm.trans h
  | next j =>
    obtain ⟨g1, g2⟩ := hver j (fun e => h3 (by rw [e])) (at_next h)
    show (if _ then _ else _) = _
    rw [if_pos g1, g2]
    exact (at_next_val (at_next h)).symm.trans h

/-- Which version a word is of. -/
def Loc.verOf : Loc → Option Nat
  | .begin_ i => some i
  | .end_ i => some i
  | .next i => some i
  | _ => none

theorem goneAll_keep {A : ASt} (cs : List Nat) {l : Loc} {v : Int} (h : A.at_ l = some v) (hn : ∀ i, l.verOf = some i → ∀ c ∈ cs, c - 1 ≠ i) : (A.goneAll cs).at_ l = some v := by
  unfold ASt.goneAll
  induction cs generalizing A with
  | nil => exact h
  | cons c cs ih =>
    refine ih ?_ (fun i hi d hd => hn i hi d (List.mem_cons_of_mem _ hd))
    refine goneV_keep h ?_ ?_ ?_ <;> (intro e; subst e; exact hn _ rfl c (List.mem_cons_self ..) rfl)
theorem goneAll_nN (A : ASt) (l : List Nat) : (A.goneAll l).nN = A.nN := by
  unfold ASt.goneAll
  induction l generalizing A with
  | nil => rfl
  | cons c cs ih => exact (ih _).trans rfl

/-- A cut behind the c-th of the first node. -/
theorem ApSt.cut {m q hi : Nat} {A : ASt} (h : ApSt m 0 hi A) (hq : q < hi) (st : Int) : ApSt m q hi (((A.at st).set (.next (2 * q)) 0).goneAll (xdn 0 q)) := by
  have keep : ∀ l v, A.at_ l = some v → l ≠ .next (2 * q) → (∀ i, l.verOf = some i → ∀ j, j < q → i ≠ 2 * j) → (((A.at st).set (.next (2 * q)) 0).goneAll (xdn 0 q)).at_ l = some v := by
    intro l v hl h1 h2
    refine goneAll_keep _ (set_other (A := A.at st) hl h1) fun i hi c hc => ?_
    obtain ⟨j, hj, _, rfl⟩ := xdn_mem _ _ _ hc
    have := h2 i hi j hj
    omega
  refine ⟨?_, ?_, by omega, h.top, ?_, ?_, fun j hj => ?_, fun j hj => ?_, fun j h0 hj => ?_⟩
  · rw [goneAll_nN, ASt.nN_set]; exact h.nN
  · rw [goneAll_nV, ASt.nV_set]; exact h.nV
  · refine keep _ _ ?_ (by simp) (fun i hi => by simp [Loc.verOf] at hi)
    rw [h.hx, xh, xh, if_pos (by omega), if_pos hq]
  · exact keep _ _ h.hy (by simp) (fun i hi => by simp [Loc.verOf] at hi)
  · exact keep _ _ (h.ye j hj) (by simp) (fun i hi k hk => by simp [Loc.verOf] at hi; omega)
  · exact keep _ _ (h.yn j hj) (by simp; omega) (fun i hi k hk => by simp [Loc.verOf] at hi; omega)
  · by_cases e : j = q
    · subst e
      rw [show xh j j = 0 from if_neg (by omega)]
      refine goneAll_keep _ ?_ fun i hi c hc => ?_
      · exact set_here (A := A.at st) (v := xh 0 j) (h.xn j (by omega) hj)
      · obtain ⟨k, hk, _, rfl⟩ := xdn_mem _ _ _ hc
        simp [Loc.verOf] at hi; omega
    · rw [show xh q j = xh 0 j by rw [xh, xh, if_pos (by omega), if_pos (by omega)]]
      exact keep _ _ (h.xn j (by omega) hj) (by simp; omega) (fun i hi k hk => by simp [Loc.verOf] at hi; omega)

/-- A drop. -/
theorem ApSt.drop {m lo hi : Nat} {A : ASt} (h : ApSt m lo (hi + 1) A) (hl : lo ≤ hi) (st : Int) : ApSt m lo hi (((A.at st).set (.head 0) (xh lo hi)).goneV (2 * hi)) := by
  have keep : ∀ l v, A.at_ l = some v → l ≠ .head 0 → (∀ i, l.verOf = some i → i ≠ 2 * hi) → (((A.at st).set (.head 0) (xh lo hi)).goneV (2 * hi)).at_ l = some v := by
    intro l v hl h1 h2
    refine goneV_keep (set_other (A := A.at st) hl h1) ?_ ?_ ?_ <;> (intro e; subst e; exact h2 _ rfl rfl)
  refine ⟨?_, ?_, hl, by have := h.top; omega, ?_, ?_, fun j hj => ?_, fun j hj => ?_, fun j h0 hj => ?_⟩
  · show (ASt.set _ _ _).nN = _; rw [ASt.nN_set]; exact h.nN
  · show (ASt.set _ _ _).nV = _; rw [ASt.nV_set]; exact h.nV
  · refine goneV_keep (set_here (A := A.at st) (v := xh lo (hi + 1)) h.hx) (by simp) (by simp) (by simp)
  · exact keep _ _ h.hy (by simp) (fun i hi => by simp [Loc.verOf] at hi)
  · exact keep _ _ (h.ye j hj) (by simp) (fun i hi => by simp [Loc.verOf] at hi; omega)
  · exact keep _ _ (h.yn j hj) (by simp) (fun i hi => by simp [Loc.verOf] at hi; omega)
  · exact keep _ _ (h.xn j h0 (by omega)) (by simp) (fun i hi => by simp [Loc.verOf] at hi; omega)
end Go.Proofs.YtbodobdllchmgaaDoor
namespace Go.Proofs.YtbodobdllchmgaaDoor
open Go Go.RowKit
set_option linter.unusedVariables false

theorem goneV_used {A : ASt} {i : Nat} (hv : A.ver i = true) : (A.goneV i).used + 3 = A.used := by
  have hg : (A.V i).gone = false := by unfold ASt.ver at hv; simp at hv; exact hv.2
  have h := cntB_gone (A := A) A.nV (ver_lt hv) hg
  unfold ASt.used
  show 2 * A.nN + 3 * cntB (fun j => !((A.goneV i).V j).gone) A.nV + cntB (fun j => !(A.T j).2) A.nT + 3 = _
  omega

theorem goneAll_used {A : ASt} (l : List Nat) (hd : l.Pairwise (· > ·)) (h1 : ∀ v ∈ l, 1 ≤ v ∧ A.ver (v - 1) = true) : (A.goneAll l).used + 3 * l.length = A.used := by
  unfold ASt.goneAll
  induction l generalizing A with
  | nil => rfl
  | cons c cs ih =>
    rw [List.pairwise_cons] at hd
    have hc := h1 c (List.mem_cons_self ..)
    have := ih (A := A.goneV (c - 1)) hd.2 (fun v hv => by
      have h2 := h1 v (List.mem_cons_of_mem _ hv)
      have h3 := hd.1 v hv
      refine ⟨h2.1, ?_⟩
      rw [goneV_ver, h2.2]
      simp; omega)
    have hu := goneV_used hc.2
    rw [List.length_cons]
    show ((cs.foldl (fun A v => A.goneV (v - 1)) (A.goneV (c - 1))).used) + _ = _
    omega

theorem goneT_used {A : ASt} {i : Nat} (hv : A.txn i = true) : (A.goneT i).used + 1 = A.used := by
  have hg : (A.T i).2 = false := by unfold ASt.txn at hv; simp at hv; exact hv.2
  have h := cntB_goneT (A := A) A.nT (txn_lt hv) hg
  unfold ASt.used
  show 2 * A.nN + 3 * cntB (fun j => !(A.V j).gone) A.nV + cntB (fun j => !((A.goneT i).T j).2) A.nT + 1 = _
  omega

theorem addTxn_txn (A : ASt) (st : Int) : (A.addTxn st).txn A.nT = true := by unfold ASt.txn ASt.addTxn; simp

theorem addTxn_used (A : ASt) (st : Int) : (A.addTxn st).used = A.used + 1 := by
  have h := goneT_used (A := A.addTxn st) (addTxn_txn A st)
  have e : ((A.addTxn st).goneT A.nT).used = A.used := by
    have same : ∀ n, n ≤ A.nT → cntB (fun j => !(((A.addTxn st).goneT A.nT).T j).2) n = cntB (fun j => !(A.T j).2) n := by
      intro n
      induction n with
      | zero => intro _; rfl
      | succ n ih =>
        intro hn
        unfold cntB
        rw [ih (by omega)]
        simp only [ASt.goneT, ASt.addTxn, if_neg (show ¬ n = A.nT by omega)]
    unfold ASt.used
    show 2 * A.nN + 3 * cntB (fun j => !(A.V j).gone) A.nV + cntB (fun j => !(((A.addTxn st).goneT A.nT).T j).2) (A.nT + 1) = _
    rw [show ∀ p : Nat → Bool, cntB p (A.nT + 1) = cntB p A.nT + if p A.nT = true then 1 else 0 from fun _ => rfl, same _ (Nat.le_refl _)]
    simp [ASt.goneT]
  omega

/-- The number of the j-th version from B on; none: 0. -/
def bh (B j : Nat) : Int := if j = 0 then 0 else (B : Int) + j
def bdn (B : Nat) : Nat → List Nat
  | 0 => []
  | h + 1 => (B + h + 1) :: bdn B h

theorem bdn_len (B h : Nat) : (bdn B h).length = h := by
  induction h with
  | zero => rfl
  | succ h ih => unfold bdn; rw [List.length_cons, ih]
theorem bdn_mem {B h v : Nat} (hv : v ∈ bdn B h) : ∃ j, j < h ∧ v = B + j + 1 := by
  induction h with
  | zero => simp [bdn] at hv
  | succ h ih =>
    unfold bdn at hv
    rcases List.mem_cons.1 hv with rfl | hv
    · exact ⟨h, by omega, rfl⟩
    · obtain ⟨j, h1, h2⟩ := ih hv
      exact ⟨j, by omega, h2⟩
theorem bdn_pair (B h : Nat) : (bdn B h).Pairwise (· > ·) := by
  induction h with
  | zero => exact List.Pairwise.nil
  | succ h ih =>
    unfold bdn
    refine List.pairwise_cons.2 ⟨fun v hv => ?_, ih⟩
    obtain ⟨j, h1, h2⟩ := bdn_mem hv
    omega

/-- A store whose newest node p has just the versions B .. B + v - 1. -/
structure BkSt (p B v : Nat) (A : ASt) : Prop where
  nN : A.nN = p + 1
  nV : A.nV = B + v
  hd : A.at_ (.head p) = some (bh B v)
  nx : ∀ j, j < v → A.at_ (.next (B + j)) = some (bh B j)

theorem BkSt.chain {p B v : Nat} {A : ASt} (h : BkSt p B v A) (t f : Nat) (ht : t ≤ v) (hf : t ≤ f) : chainF A f (bh B t) = bdn B t := by
  induction t generalizing f with
  | zero => exact chain_zero A f _ (by unfold bh; simp)
  | succ t ih =>
    obtain ⟨f, rfl⟩ : ∃ f', f = f' + 1 := ⟨f - 1, by omega⟩
    obtain ⟨hv, hn⟩ := next_in (h.nx t (by omega))
    rw [show bh B (t + 1) = ((B + t : Nat) : Int) + 1 by rw [bh, if_neg (by omega)]; omega, chainF_go hv, hn, ih f (by omega) (by omega)]
    rfl

theorem BkSt.nxOk {p B v : Nat} {A : ASt} (h : BkSt p B v A) : A.nxOk (bh B v) := by
  by_cases e : v = 0
  · exact .inl (if_pos e)
  · refine .inr ⟨B + (v - 1), ?_, at_next (h.nx (v - 1) (by omega))⟩
    rw [bh, if_neg e]; omega

theorem BkSt.grow {p B v : Nat} {A : ASt} (h : BkSt p B v A) (st : Int) (val : ByteArray) (bg : Int) :
    BkSt p B (v + 1) ((A.addVer st val bg (bh B v)).step.set (.head p) ((B : Int) + (v : Int) + 1)) := by
  obtain ⟨v1, b1, e1, n1⟩ := addVer_new A st val bg (bh B v)
  rw [h.nV] at n1
  refine ⟨?_, ?_, ?_, fun j hj => ?_⟩
  · rw [ASt.nN_set]; exact h.nN
  · rw [ASt.nV_set]; show A.nV + 1 = _; rw [h.nV]; omega
  · rw [show bh B (v + 1) = (B : Int) + (v : Int) + 1 by rw [bh, if_neg (by omega)]; omega]
    exact set_here (v := bh B v) (addVer_at _ _ _ _ _ _ _ h.hd)
  · have h5 : (A.addVer st val bg (bh B v)).at_ (.next (B + j)) = some (bh B j) := by
      by_cases e : j = v
      · subst e; exact n1
      · exact addVer_at _ _ _ _ _ _ _ (h.nx j (by omega))
    exact set_other (l := .head p) (u := (B : Int) + (v : Int) + 1) h5 (by simp)
theorem BkSt.growUsed {p : Nat} {A : ASt} (st : Int) (val : ByteArray) (bg nx u : Int) : ((A.addVer st val bg nx).step.set (.head p) u).used = A.used + 3 ∧ ((A.addVer st val bg nx).step.set (.head p) u).size = A.size ∧ ((A.addVer st val bg nx).step.set (.head p) u).ab = A.ab ∧ ((A.addVer st val bg nx).step.set (.head p) u).nT = A.nT := by
  refine ⟨?_, by rw [ASt.size_set]; rfl, by rw [ASt.ab_set]; rfl, by rw [ASt.nT_set]; rfl⟩
  rw [ASt.used_set]
  exact addVer_used A st val bg nx

theorem goneAll_same (A : ASt) (l : List Nat) : (A.goneAll l).size = A.size ∧ (A.goneAll l).ab = A.ab ∧ (A.goneAll l).nT = A.nT := by
  unfold ASt.goneAll
  induction l generalizing A with
  | nil => exact ⟨rfl, rfl, rfl⟩
  | cons c cs ih => exact ih (A.goneV (c - 1))

/-- Behind Cut and Drop. -/
theorem BkSt.end_ {p B q : Nat} {A : ASt} (h : BkSt p B (q + 1) A) (s1 s2 : Int) :
    ((((A.at s1).set (.next (B + q)) 0).goneAll (bdn B q)).at_ (.head p) = some (((B + q : Nat) : Int) + 1)) ∧
    ((((A.at s1).set (.next (B + q)) 0).goneAll (bdn B q)).at_ (.next (B + q)) = some 0) ∧
    ((((((A.at s1).set (.next (B + q)) 0).goneAll (bdn B q)).at s2).set (.head p) 0).goneV (B + q)).used + 3 * (q + 1) = A.used := by
  have hnx : ((A.at s1).set (.next (B + q)) 0).at_ (.next (B + q)) = some 0 := set_here (A := A.at s1) (v := bh B q) (h.nx q (by omega))
  have hlive : ∀ j, j < q + 1 → ((A.at s1).set (.next (B + q)) 0).ver (B + j) = true := fun j hj => by
    rw [ASt.ver_set]; exact at_next (h.nx j hj)
  have hu := goneAll_used (A := (A.at s1).set (.next (B + q)) 0) (bdn B q) (bdn_pair B q) (fun v hv => by
    obtain ⟨j, h1, rfl⟩ := bdn_mem hv
    exact ⟨by omega, hlive j (by omega)⟩)
  have hkeep : ∀ i, (Loc.next (B + q)).verOf = some i → ∀ c ∈ bdn B q, c - 1 ≠ i := fun i hi c hc => by
    obtain ⟨j, h1, rfl⟩ := bdn_mem hc
    simp [Loc.verOf] at hi; omega
  have h2 : (((A.at s1).set (.next (B + q)) 0).goneAll (bdn B q)).at_ (.next (B + q)) = some 0 := goneAll_keep _ hnx hkeep
  refine ⟨?_, h2, ?_⟩
  · refine goneAll_keep _ (set_other (A := A.at s1) (l := .next (B + q)) (u := 0) (v := ((B + q : Nat) : Int) + 1) ?_ (by simp)) (fun i hi => by simp [Loc.verOf] at hi)
    have h3 := h.hd
    rw [show bh B (q + 1) = ((B + q : Nat) : Int) + 1 by rw [bh, if_neg (by omega)]; omega] at h3
    exact h3
  · have hv : (((((A.at s1).set (.next (B + q)) 0).goneAll (bdn B q)).at s2).set (.head p) 0).ver (B + q) = true := by
      rw [ASt.ver_set]; exact at_next h2
    have h4 := goneV_used hv
    rw [ASt.used_set] at h4
    have h5 : ((((A.at s1).set (.next (B + q)) 0).goneAll (bdn B q)).at s2).used = (((A.at s1).set (.next (B + q)) 0).goneAll (bdn B q)).used := rfl
    rw [h5] at h4
    rw [ASt.used_set, bdn_len] at hu
    have h6 : (A.at s1).used = A.used := rfl
    omega

theorem BkSt.endNum {p B q : Nat} {A : ASt} (h : BkSt p B (q + 1) A) (s1 s2 : Int) :
    let A' := (((((A.at s1).set (.next (B + q)) 0).goneAll (bdn B q)).at s2).set (.head p) 0).goneV (B + q)
    A'.nN = p + 1 ∧ A'.nV = B + (q + 1) ∧ A'.size = A.size ∧ A'.ab = A.ab ∧ A'.nT = A.nT := by
  intro A'
  obtain ⟨g1, g2, g3⟩ := goneAll_same ((A.at s1).set (.next (B + q)) 0) (bdn B q)
  refine ⟨?_, ?_, ?_, ?_, ?_⟩
  · show (ASt.set _ _ _).nN = _
    rw [ASt.nN_set]; show (ASt.goneAll _ _).nN = _; rw [goneAll_nN, ASt.nN_set]; exact h.nN
  · show (ASt.set _ _ _).nV = _
    rw [ASt.nV_set]; show (ASt.goneAll _ _).nV = _; rw [goneAll_nV, ASt.nV_set]; exact h.nV
  · show (ASt.set _ _ _).size = _
    rw [ASt.size_set]; show (ASt.goneAll _ _).size = _; rw [g1, ASt.size_set]; rfl
  · show (ASt.set _ _ _).ab = _
    rw [ASt.ab_set]; show (ASt.goneAll _ _).ab = _; rw [g2, ASt.ab_set]; rfl
  · show (ASt.set _ _ _).nT = _
    rw [ASt.nT_set]; show (ASt.goneAll _ _).nT = _; rw [g3, ASt.nT_set]; rfl

/-- A node more. -/
theorem BkSt.start {p : Nat} {A : ASt} (h : A.nN = p) (st : Int) : BkSt p A.nV 0 (A.addNode st) := by
  refine ⟨by show A.nN + 1 = _; rw [h], rfl, ?_, fun j hj => by omega⟩
  show (if p < A.nN + 1 then some ((if p = A.nN then ((0 : Int), (0 : Int)) else A.N p)).1 else none) = _
  rw [if_pos (by omega), if_pos h.symm]; rfl
theorem addNode_used (A : ASt) (st : Int) : (A.addNode st).used = A.used + 2 := by
  unfold ASt.used ASt.addNode; simp only; omega
end Go.Proofs.YtbodobdllchmgaaDoor
