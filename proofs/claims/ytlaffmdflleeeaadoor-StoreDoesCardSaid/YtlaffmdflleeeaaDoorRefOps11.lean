/- The walks of the reference's loads, swaps and sets (printed by mkref.py). -/
import Derived.Test.YtlaffmdflleeeaaDoorRefSt
import Derived.Test.YtlaffmdflleeeaaDoorRefWord
import Derived.BigRegion
namespace Go.Proofs.YtlaffmdflleeeaaDoor
open Go Go.RowKit
set_option linter.unusedVariables false

variable {o : List Nat} {w0 w : World} {b : Nat} {x : RfIx} {A : ASt} {fr rs : Int}

theorem free_set (A : ASt) (l : Loc) (v : Int) : (A.set l v).free = A.free := by unfold ASt.free; rw [A.size_set, A.used_set]
theorem Has.rfShutAs {A : ASt} (h : Has o w0 w (RfP b x A fr rs)) (e : fr = A.free) : Has o w0 w (.rstore b A rs) := by subst e; exact h.rfShut

theorem in_head {A : ASt} {i : Nat} {v : Int} (hl : A.at_ (.head i) = some v) : (A.N i).1 = v := by
  have h : (if i < A.nN then some (A.N i).1 else none) = some v := hl
  rw [if_pos (at_head hl)] at h; exact Option.some.inj h
theorem in_lock {A : ASt} {i : Nat} {v : Int} (hl : A.at_ (.lock i) = some v) : (A.N i).2 = v := by
  have h : (if i < A.nN then some (A.N i).2 else none) = some v := hl
  rw [if_pos (at_lock hl)] at h; exact Option.some.inj h
theorem in_begin {A : ASt} {i : Nat} {v : Int} (hl : A.at_ (.begin_ i) = some v) : (A.V i).begin_ = v := by
  have h : (if A.ver i = true then some (A.V i).begin_ else none) = some v := hl
  rw [if_pos (at_begin hl)] at h; exact Option.some.inj h
theorem in_end {A : ASt} {i : Nat} {v : Int} (hl : A.at_ (.end_ i) = some v) : (A.V i).end_ = v := by
  have h : (if A.ver i = true then some (A.V i).end_ else none) = some v := hl
  rw [if_pos (at_end hl)] at h; exact Option.some.inj h
theorem in_next {A : ASt} {i : Nat} {v : Int} (hl : A.at_ (.next i) = some v) : (A.V i).next = v := by
  have h : (if A.ver i = true then some (A.V i).next else none) = some v := hl
  rw [if_pos (at_next hl)] at h; exact Option.some.inj h
theorem in_state {A : ASt} {i : Nat} {v : Int} (hl : A.at_ (.state i) = some v) : (A.T i).1 = v := by
  have h : (if A.txn i = true then some (A.T i).1 else none) = some v := hl
  rw [if_pos (at_state hl)] at h; exact Option.some.inj h

theorem is_node {A : ASt} {i : Nat} (h : i < A.nN) : A.isN ((i : Int) + 1) = true := by unfold ASt.isN; simp; omega
theorem is_ver {A : ASt} {i : Nat} (h : A.ver i = true) : A.isV ((i : Int) + 1) = true := by unfold ASt.isV; rw [show ((i : Int) + 1 - 1).toNat = i by omega, h]; simp; omega
theorem is_txn {A : ASt} {i : Nat} (h : A.txn i = true) : A.isT ((i : Int) + 1) = true := by unfold ASt.isT; rw [show ((i : Int) + 1 - 1).toNat = i by omega, h]; simp; omega

theorem RfP.putHead (h : Has o w0 w (RfP b x A fr rs)) {i g cap : Nat} (hi : i < A.nN) (e : x.nv = .slice (some ⟨g, 0, none⟩) A.nN cap) (v : Int) : Has o w0 (w.setCell ⟨g, i * 2, none⟩ (.int .i64 v)) (RfP b x (A.set (.head i) v) fr rs) := by
  obtain ⟨g2, cap2, e2, _, _, _, _, p0, p1⟩ := RfP.node h hi
  rw [e] at e2
  obtain ⟨rfl, rfl⟩ : g = g2 ∧ cap = cap2 := by simpa using e2
  exact p0 v
theorem RfP.putLock (h : Has o w0 w (RfP b x A fr rs)) {i g cap : Nat} (hi : i < A.nN) (e : x.nv = .slice (some ⟨g, 0, none⟩) A.nN cap) (v : Int) : Has o w0 (w.setCell ⟨g, i * 2 + 1, none⟩ (.int .u64 v)) (RfP b x (A.set (.lock i) v) fr rs) := by
  obtain ⟨g2, cap2, e2, _, _, _, _, p0, p1⟩ := RfP.node h hi
  rw [e] at e2
  obtain ⟨rfl, rfl⟩ : g = g2 ∧ cap = cap2 := by simpa using e2
  exact p1 v
theorem RfP.putBegin (h : Has o w0 w (RfP b x A fr rs)) {i g cap : Nat} (hi : i < A.nV) (e : x.vv = .slice (some ⟨g, 0, none⟩) A.nV cap) (v : Int) : Has o w0 (w.setCell ⟨g, i * 5 + 1, none⟩ (.int .u64 v)) (RfP b x (A.set (.begin_ i) v) fr rs) := by
  obtain ⟨g2, cap2, e2, _, _, _, _, _, _, _, p0, p1, p2⟩ := RfP.ver h hi
  rw [e] at e2
  obtain ⟨rfl, rfl⟩ : g = g2 ∧ cap = cap2 := by simpa using e2
  exact p0 v
theorem RfP.putEnd (h : Has o w0 w (RfP b x A fr rs)) {i g cap : Nat} (hi : i < A.nV) (e : x.vv = .slice (some ⟨g, 0, none⟩) A.nV cap) (v : Int) : Has o w0 (w.setCell ⟨g, i * 5 + 2, none⟩ (.int .u64 v)) (RfP b x (A.set (.end_ i) v) fr rs) := by
  obtain ⟨g2, cap2, e2, _, _, _, _, _, _, _, p0, p1, p2⟩ := RfP.ver h hi
  rw [e] at e2
  obtain ⟨rfl, rfl⟩ : g = g2 ∧ cap = cap2 := by simpa using e2
  exact p1 v
theorem RfP.putNext (h : Has o w0 w (RfP b x A fr rs)) {i g cap : Nat} (hi : i < A.nV) (e : x.vv = .slice (some ⟨g, 0, none⟩) A.nV cap) (v : Int) : Has o w0 (w.setCell ⟨g, i * 5 + 3, none⟩ (.int .i64 v)) (RfP b x (A.set (.next i) v) fr rs) := by
  obtain ⟨g2, cap2, e2, _, _, _, _, _, _, _, p0, p1, p2⟩ := RfP.ver h hi
  rw [e] at e2
  obtain ⟨rfl, rfl⟩ : g = g2 ∧ cap = cap2 := by simpa using e2
  exact p2 v
theorem RfP.putState (h : Has o w0 w (RfP b x A fr rs)) {i g cap : Nat} (hi : i < A.nT) (e : x.tv = .slice (some ⟨g, 0, none⟩) A.nT cap) (v : Int) : Has o w0 (w.setCell ⟨g, i * 2, none⟩ (.int .u64 v)) (RfP b x (A.set (.state i) v) fr rs) := by
  obtain ⟨g2, cap2, e2, _, _, _, _, p0⟩ := RfP.txn h hi
  rw [e] at e2
  obtain ⟨rfl, rfl⟩ : g = g2 ∧ cap = cap2 := by simpa using e2
  exact p0 v
set_option maxHeartbeats 1000000 in
set_option maxRecDepth 100000 in
theorem rhead_no (h : Has o w0 w (.rstore b A rs)) (n : Int) (hn : A.isN n = false) :
    Calls Tryd.prog 52 #[.pointer (some ⟨b, 0, none⟩), .int .i64 n] w fun e w' => e = .returned (.tuple #[.int .i64 0, .int .i64 110]) ∧ w' = w := by
  obtain ⟨x, h⟩ := h.rfOpen
  have HN := Lib.hid (show Calls Tryd.prog 72 #[.pointer (some ⟨b, 0, none⟩), .int .i64 n] w fun e w' => e = .returned (.bool false) ∧ w' = w from by
    have h5 := rnode_walk h n
    rw [hn] at h5
    exact h5)
  clear h hn
  go_enter Tryd.func52, Tryd.ntmps52
  go_wp2_with fail
  refine HN.out.mono ?_
  rintro e w' ⟨rfl, rfl⟩
  go_wp2_with fail
  go_ret2
  exact ⟨rfl, rfl⟩

set_option maxHeartbeats 1000000 in
set_option maxRecDepth 100000 in
theorem rhead_at (h : Has o w0 w (.rstore b A rs)) (i : Nat) (v : Int) (hl : A.at_ (.head i) = some v) :
    Calls Tryd.prog 52 #[.pointer (some ⟨b, 0, none⟩), .int .i64 ((i : Int) + 1)] w fun e w' => e = .returned (.tuple #[.int .i64 v, .int .i64 0]) ∧ Has o w0 w' (.rstore b A (wrap64 (rs + 1))) := by
  obtain ⟨x, h⟩ := h.rfOpen
  have hlt := at_head hl
  have hok := is_node hlt
  have h9 : A.nN ≤ 9223372036854775807 := Nat.le_trans (RfP.small h).1 (by decide)
  obtain ⟨c0, c1, c2, c3, c4, zf⟩ := RfP.fields h
  have z4 := zf 4 (by omega)
  obtain ⟨g, cap, e, hgb, y0, y1, yf, _, _⟩ := RfP.node h hlt
  rw [e] at c0
  rw [in_head hl] at y0
  have HN := Lib.hid (show Calls Tryd.prog 72 #[.pointer (some ⟨b, 0, none⟩), .int .i64 ((i : Int) + 1)] w fun e w' => e = .returned (.bool true) ∧ w' = w from by
    have h5 := rnode_walk h ((i : Int) + 1)
    rw [hok] at h5
    exact h5)
  have HS := Lib.hid (RfP.putSteps h (wrap64 (rs + 1)))
  have hb : 0 ≤ (i : Int) ∧ (i : Int) < (A.nN : Int) := by omega
  clear h e hl hok zf yf
  go_enter Tryd.func52, Tryd.ntmps52
  go_wp2_with fail
  refine HN.out.mono ?_
  rintro e w' ⟨rfl, rfl⟩
  go_wp2_with fail
  go_ret2
  exact ⟨rfl, HS.out.rfShut⟩

set_option maxHeartbeats 1000000 in
set_option maxRecDepth 100000 in
theorem rlock_no (h : Has o w0 w (.rstore b A rs)) (n : Int) (hn : A.isN n = false) :
    Calls Tryd.prog 63 #[.pointer (some ⟨b, 0, none⟩), .int .i64 n] w fun e w' => e = .returned (.tuple #[.int .u64 0, .int .i64 110]) ∧ w' = w := by
  obtain ⟨x, h⟩ := h.rfOpen
  have HN := Lib.hid (show Calls Tryd.prog 72 #[.pointer (some ⟨b, 0, none⟩), .int .i64 n] w fun e w' => e = .returned (.bool false) ∧ w' = w from by
    have h5 := rnode_walk h n
    rw [hn] at h5
    exact h5)
  clear h hn
  go_enter Tryd.func63, Tryd.ntmps63
  go_wp2_with fail
  refine HN.out.mono ?_
  rintro e w' ⟨rfl, rfl⟩
  go_wp2_with fail
  go_ret2
  exact ⟨rfl, rfl⟩

set_option maxHeartbeats 1000000 in
set_option maxRecDepth 100000 in
theorem rlock_at (h : Has o w0 w (.rstore b A rs)) (i : Nat) (v : Int) (hl : A.at_ (.lock i) = some v) :
    Calls Tryd.prog 63 #[.pointer (some ⟨b, 0, none⟩), .int .i64 ((i : Int) + 1)] w fun e w' => e = .returned (.tuple #[.int .u64 v, .int .i64 0]) ∧ Has o w0 w' (.rstore b A (wrap64 (rs + 1))) := by
  obtain ⟨x, h⟩ := h.rfOpen
  have hlt := at_lock hl
  have hok := is_node hlt
  have h9 : A.nN ≤ 9223372036854775807 := Nat.le_trans (RfP.small h).1 (by decide)
  obtain ⟨c0, c1, c2, c3, c4, zf⟩ := RfP.fields h
  have z4 := zf 4 (by omega)
  obtain ⟨g, cap, e, hgb, y0, y1, yf, _, _⟩ := RfP.node h hlt
  rw [e] at c0
  rw [in_lock hl] at y1
  have HN := Lib.hid (show Calls Tryd.prog 72 #[.pointer (some ⟨b, 0, none⟩), .int .i64 ((i : Int) + 1)] w fun e w' => e = .returned (.bool true) ∧ w' = w from by
    have h5 := rnode_walk h ((i : Int) + 1)
    rw [hok] at h5
    exact h5)
  have HS := Lib.hid (RfP.putSteps h (wrap64 (rs + 1)))
  have hb : 0 ≤ (i : Int) ∧ (i : Int) < (A.nN : Int) := by omega
  clear h e hl hok zf yf
  go_enter Tryd.func63, Tryd.ntmps63
  go_wp2_with fail
  refine HN.out.mono ?_
  rintro e w' ⟨rfl, rfl⟩
  go_wp2_with fail
  go_ret2
  exact ⟨rfl, HS.out.rfShut⟩

set_option maxHeartbeats 1000000 in
set_option maxRecDepth 100000 in
theorem rstate_no (h : Has o w0 w (.rstore b A rs)) (n : Int) (hn : A.isT n = false) :
    Calls Tryd.prog 61 #[.pointer (some ⟨b, 0, none⟩), .int .i64 n] w fun e w' => e = .returned (.tuple #[.int .u64 0, .int .i64 110]) ∧ w' = w := by
  obtain ⟨x, h⟩ := h.rfOpen
  have HN := Lib.hid (show Calls Tryd.prog 84 #[.pointer (some ⟨b, 0, none⟩), .int .i64 n] w fun e w' => e = .returned (.bool false) ∧ w' = w from by
    have h5 := rtxn_walk h n
    rw [hn] at h5
    exact h5)
  clear h hn
  go_enter Tryd.func61, Tryd.ntmps61
  go_wp2_with fail
  refine HN.out.mono ?_
  rintro e w' ⟨rfl, rfl⟩
  go_wp2_with fail
  go_ret2
  exact ⟨rfl, rfl⟩

set_option maxHeartbeats 1000000 in
set_option maxRecDepth 100000 in
theorem rstate_at (h : Has o w0 w (.rstore b A rs)) (i : Nat) (v : Int) (hl : A.at_ (.state i) = some v) :
    Calls Tryd.prog 61 #[.pointer (some ⟨b, 0, none⟩), .int .i64 ((i : Int) + 1)] w fun e w' => e = .returned (.tuple #[.int .u64 v, .int .i64 0]) ∧ Has o w0 w' (.rstore b A (wrap64 (rs + 1))) := by
  obtain ⟨x, h⟩ := h.rfOpen
  have hlt := txn_lt (at_state hl)
  have hok := is_txn (at_state hl)
  have h9 : A.nT ≤ 9223372036854775807 := Nat.le_trans (RfP.small h).2.2 (by decide)
  obtain ⟨c0, c1, c2, c3, c4, zf⟩ := RfP.fields h
  have z4 := zf 4 (by omega)
  obtain ⟨g, cap, e, hgb, y0, y1, yf, _⟩ := RfP.txn h hlt
  rw [e] at c2
  rw [in_state hl] at y0
  have HN := Lib.hid (show Calls Tryd.prog 84 #[.pointer (some ⟨b, 0, none⟩), .int .i64 ((i : Int) + 1)] w fun e w' => e = .returned (.bool true) ∧ w' = w from by
    have h5 := rtxn_walk h ((i : Int) + 1)
    rw [hok] at h5
    exact h5)
  have HS := Lib.hid (RfP.putSteps h (wrap64 (rs + 1)))
  have hb : 0 ≤ (i : Int) ∧ (i : Int) < (A.nT : Int) := by omega
  clear h e hl hok zf yf
  go_enter Tryd.func61, Tryd.ntmps61
  go_wp2_with fail
  refine HN.out.mono ?_
  rintro e w' ⟨rfl, rfl⟩
  go_wp2_with fail
  go_ret2
  exact ⟨rfl, HS.out.rfShut⟩

set_option maxHeartbeats 1000000 in
set_option maxRecDepth 100000 in
theorem rword_no (h : Has o w0 w (.rstore b A rs)) (n : Int) (k : Int) (hn : A.isV n = false) :
    Calls Tryd.prog 59 #[.pointer (some ⟨b, 0, none⟩), .int .i64 n, .int .i64 k] w fun e w' => e = .returned (.tuple #[.int .u64 0, .int .i64 110]) ∧ w' = w := by
  obtain ⟨x, h⟩ := h.rfOpen
  have HN := Lib.hid (show Calls Tryd.prog 80 #[.pointer (some ⟨b, 0, none⟩), .int .i64 n] w fun e w' => e = .returned (.bool false) ∧ w' = w from by
    have h5 := rversion_walk h n
    rw [hn] at h5
    exact h5)
  clear h hn
  go_enter Tryd.func59, Tryd.ntmps59
  go_wp2_with fail
  refine HN.out.mono ?_
  rintro e w' ⟨rfl, rfl⟩
  go_wp2_with fail
  go_ret2
  exact ⟨rfl, rfl⟩

set_option maxHeartbeats 1000000 in
set_option maxRecDepth 100000 in
theorem rword0_at (h : Has o w0 w (.rstore b A rs)) (i : Nat) (v : Int) (hl : A.at_ (.begin_ i) = some v) :
    Calls Tryd.prog 59 #[.pointer (some ⟨b, 0, none⟩), .int .i64 ((i : Int) + 1), .int .i64 0] w fun e w' => e = .returned (.tuple #[.int .u64 v, .int .i64 0]) ∧ Has o w0 w' (.rstore b A (wrap64 (rs + 1))) := by
  obtain ⟨x, h⟩ := h.rfOpen
  have hver := at_begin hl
  have hlt := ver_lt hver
  have hok := is_ver hver
  have h9 : A.nV ≤ 9223372036854775807 := Nat.le_trans (RfP.small h).2.1 (by decide)
  obtain ⟨_, _, _, _, c4, zf⟩ := RfP.fields h
  have z4 := zf 4 (by omega)
  have HN := Lib.hid (show Calls Tryd.prog 80 #[.pointer (some ⟨b, 0, none⟩), .int .i64 ((i : Int) + 1)] w fun e w' => e = .returned (.bool true) ∧ w' = w from by
    have h5 := rversion_walk h ((i : Int) + 1)
    rw [hok] at h5
    exact h5)
  have HS := Lib.hid (RfP.putSteps h (wrap64 (rs + 1)))
  have hb : 0 ≤ (i : Int) ∧ (i : Int) < (A.nV : Int) := by omega
  clear h hok zf
  go_enter Tryd.func59, Tryd.ntmps59
  go_wp2_with fail
  refine HN.out.mono ?_
  rintro e w' ⟨rfl, rfl⟩
  go_wp2_with fail
  clear c4 z4
  generalize w'.setCell ⟨b, 4, none⟩ (.int .i64 (wrap64 (rs + 1))) = W5 at *
  obtain ⟨_, d1, _⟩ := RfP.fields HS.out
  obtain ⟨g2, cap2, e2, _, _, x1, x2, x3, _, _, _⟩ := RfP.ver HS.out hlt
  rw [e2] at d1
  rw [in_begin hl] at x1
  have HSA := HS.out.alloc (.cells #[.int .u64 0, .int .u64 0, .int .u64 0] 113)
  obtain ⟨_, d1a, _⟩ := RfP.fields HSA
  obtain ⟨g3, cap3, e3, _, _, x1a, x2a, x3a, _, _, _⟩ := RfP.ver HSA hlt
  rw [e3] at e2 d1a
  obtain ⟨rfl, rfl⟩ : g3 = g2 ∧ cap3 = cap2 := by simpa using e2
  rw [in_begin hl] at x1a
  clear HSA e3 e2
  have hidx : 0 ≤ IntKind.i64.wrap ↑i ∧ IntKind.i64.wrap ↑i < ↑A.nV := by unfold IntKind.wrap; simp [IntKind.bits, IntKind.signed]; omega
  go_region
  go_wp2_with fail
  go_ret2
  exact ⟨rfl, ((HS.out.alloc _).quiet ((Kept.refl [] _).drew)).rfShut⟩

set_option maxHeartbeats 1000000 in
set_option maxRecDepth 100000 in
theorem rword1_at (h : Has o w0 w (.rstore b A rs)) (i : Nat) (v : Int) (hl : A.at_ (.end_ i) = some v) :
    Calls Tryd.prog 59 #[.pointer (some ⟨b, 0, none⟩), .int .i64 ((i : Int) + 1), .int .i64 1] w fun e w' => e = .returned (.tuple #[.int .u64 v, .int .i64 0]) ∧ Has o w0 w' (.rstore b A (wrap64 (rs + 1))) := by
  obtain ⟨x, h⟩ := h.rfOpen
  have hver := at_end hl
  have hlt := ver_lt hver
  have hok := is_ver hver
  have h9 : A.nV ≤ 9223372036854775807 := Nat.le_trans (RfP.small h).2.1 (by decide)
  obtain ⟨_, _, _, _, c4, zf⟩ := RfP.fields h
  have z4 := zf 4 (by omega)
  have HN := Lib.hid (show Calls Tryd.prog 80 #[.pointer (some ⟨b, 0, none⟩), .int .i64 ((i : Int) + 1)] w fun e w' => e = .returned (.bool true) ∧ w' = w from by
    have h5 := rversion_walk h ((i : Int) + 1)
    rw [hok] at h5
    exact h5)
  have HS := Lib.hid (RfP.putSteps h (wrap64 (rs + 1)))
  have hb : 0 ≤ (i : Int) ∧ (i : Int) < (A.nV : Int) := by omega
  clear h hok zf
  go_enter Tryd.func59, Tryd.ntmps59
  go_wp2_with fail
  refine HN.out.mono ?_
  rintro e w' ⟨rfl, rfl⟩
  go_wp2_with fail
  clear c4 z4
  generalize w'.setCell ⟨b, 4, none⟩ (.int .i64 (wrap64 (rs + 1))) = W5 at *
  obtain ⟨_, d1, _⟩ := RfP.fields HS.out
  obtain ⟨g2, cap2, e2, _, _, x1, x2, x3, _, _, _⟩ := RfP.ver HS.out hlt
  rw [e2] at d1
  rw [in_end hl] at x2
  have HSA := HS.out.alloc (.cells #[.int .u64 0, .int .u64 0, .int .u64 0] 113)
  obtain ⟨_, d1a, _⟩ := RfP.fields HSA
  obtain ⟨g3, cap3, e3, _, _, x1a, x2a, x3a, _, _, _⟩ := RfP.ver HSA hlt
  rw [e3] at e2 d1a
  obtain ⟨rfl, rfl⟩ : g3 = g2 ∧ cap3 = cap2 := by simpa using e2
  rw [in_end hl] at x2a
  clear HSA e3 e2
  have hidx : 0 ≤ IntKind.i64.wrap ↑i ∧ IntKind.i64.wrap ↑i < ↑A.nV := by unfold IntKind.wrap; simp [IntKind.bits, IntKind.signed]; omega
  go_region
  go_wp2_with fail
  go_ret2
  exact ⟨rfl, ((HS.out.alloc _).quiet ((Kept.refl [] _).drew)).rfShut⟩

set_option maxHeartbeats 1000000 in
set_option maxRecDepth 100000 in
theorem rword2_at (h : Has o w0 w (.rstore b A rs)) (i : Nat) (v : Int) (hl : A.at_ (.next i) = some v) (hv0 : 0 ≤ v) (hv9 : v < 9223372036854775808) :
    Calls Tryd.prog 59 #[.pointer (some ⟨b, 0, none⟩), .int .i64 ((i : Int) + 1), .int .i64 2] w fun e w' => e = .returned (.tuple #[.int .u64 v, .int .i64 0]) ∧ Has o w0 w' (.rstore b A (wrap64 (rs + 1))) := by
  obtain ⟨x, h⟩ := h.rfOpen
  have hver := at_next hl
  have hlt := ver_lt hver
  have hok := is_ver hver
  have h9 : A.nV ≤ 9223372036854775807 := Nat.le_trans (RfP.small h).2.1 (by decide)
  obtain ⟨_, _, _, _, c4, zf⟩ := RfP.fields h
  have z4 := zf 4 (by omega)
  have e9 : IntKind.u64.wrap v = v := by unfold IntKind.wrap; simp [IntKind.bits, IntKind.signed]; omega
  have HN := Lib.hid (show Calls Tryd.prog 80 #[.pointer (some ⟨b, 0, none⟩), .int .i64 ((i : Int) + 1)] w fun e w' => e = .returned (.bool true) ∧ w' = w from by
    have h5 := rversion_walk h ((i : Int) + 1)
    rw [hok] at h5
    exact h5)
  have HS := Lib.hid (RfP.putSteps h (wrap64 (rs + 1)))
  have hb : 0 ≤ (i : Int) ∧ (i : Int) < (A.nV : Int) := by omega
  clear h hok zf
  go_enter Tryd.func59, Tryd.ntmps59
  go_wp2_with fail
  refine HN.out.mono ?_
  rintro e w' ⟨rfl, rfl⟩
  go_wp2_with fail
  clear c4 z4
  generalize w'.setCell ⟨b, 4, none⟩ (.int .i64 (wrap64 (rs + 1))) = W5 at *
  obtain ⟨_, d1, _⟩ := RfP.fields HS.out
  obtain ⟨g2, cap2, e2, _, _, x1, x2, x3, _, _, _⟩ := RfP.ver HS.out hlt
  rw [e2] at d1
  rw [in_next hl] at x3
  have HSA := HS.out.alloc (.cells #[.int .u64 0, .int .u64 0, .int .u64 0] 113)
  obtain ⟨_, d1a, _⟩ := RfP.fields HSA
  obtain ⟨g3, cap3, e3, _, _, x1a, x2a, x3a, _, _, _⟩ := RfP.ver HSA hlt
  rw [e3] at e2 d1a
  obtain ⟨rfl, rfl⟩ : g3 = g2 ∧ cap3 = cap2 := by simpa using e2
  rw [in_next hl] at x3a
  clear HSA e3 e2
  have hidx : 0 ≤ IntKind.i64.wrap ↑i ∧ IntKind.i64.wrap ↑i < ↑A.nV := by unfold IntKind.wrap; simp [IntKind.bits, IntKind.signed]; omega
  go_region
  go_wp2_with fail
  go_ret2
  exact ⟨rfl, ((HS.out.alloc _).quiet ((Kept.refl [] _).drew)).rfShut⟩

set_option maxHeartbeats 1000000 in
set_option maxRecDepth 100000 in
theorem rsetBegin_no (h : Has o w0 w (.rstore b A rs)) (n : Int) (q : Int) (hq0 : 0 ≤ q) (hq1 : q < 18446744073709551616) (hn : A.isV n = false) :
    Calls Tryd.prog 65 #[.pointer (some ⟨b, 0, none⟩), .int .i64 n, .int .u64 q] w fun e w' => e = .returned (.int .i64 110) ∧ w' = w := by
  obtain ⟨x, h⟩ := h.rfOpen
  have HN := Lib.hid (show Calls Tryd.prog 80 #[.pointer (some ⟨b, 0, none⟩), .int .i64 n] w fun e w' => e = .returned (.bool false) ∧ w' = w from by
    have h5 := rversion_walk h n
    rw [hn] at h5
    exact h5)
  have HP := Lib.hid (rbegins_walk w q hq0 hq1)
  clear h hn
  go_enter Tryd.func65, Tryd.ntmps65
  go_wp2_with fail
  refine HN.out.mono ?_
  rintro e w' ⟨rfl, rfl⟩
  go_wp2_with fail
  refine HP.out.mono ?_
  rintro e w' ⟨rfl, rfl⟩
  go_wp2_with fail
  go_ret
  exact ⟨rfl, rfl⟩

set_option maxHeartbeats 1000000 in
set_option maxRecDepth 100000 in
theorem rsetBegin_bad (h : Has o w0 w (.rstore b A rs)) (n q : Int) (hn : A.isV n = true) (hq0 : 0 ≤ q) (hq1 : q < 18446744073709551616) (hq : wBegins q = false) :
    Calls Tryd.prog 65 #[.pointer (some ⟨b, 0, none⟩), .int .i64 n, .int .u64 q] w fun e w' => e = .returned (.int .i64 50) ∧ w' = w := by
  obtain ⟨x, h⟩ := h.rfOpen
  have HN := Lib.hid (show Calls Tryd.prog 80 #[.pointer (some ⟨b, 0, none⟩), .int .i64 n] w fun e w' => e = .returned (.bool true) ∧ w' = w from by
    have h5 := rversion_walk h n
    rw [hn] at h5
    exact h5)
  have hp := rbegins_walk w q hq0 hq1
  rw [hq] at hp
  have HP := Lib.hid hp
  clear h hn hp
  go_enter Tryd.func65, Tryd.ntmps65
  go_wp2_with fail
  refine HN.out.mono ?_
  rintro e w' ⟨rfl, rfl⟩
  go_wp2_with fail
  refine HP.out.mono ?_
  rintro e w' ⟨rfl, rfl⟩
  go_wp2_with fail
  go_ret
  exact ⟨rfl, rfl⟩

set_option maxHeartbeats 1000000 in
set_option maxRecDepth 100000 in
theorem rsetBegin_at (h : Has o w0 w (.rstore b A rs)) (i : Nat) (u q : Int) (hl : A.at_ (.begin_ i) = some u) (hq0 : 0 ≤ q) (hq1 : q < 18446744073709551616) (hq : wBegins q = true) :
    Calls Tryd.prog 65 #[.pointer (some ⟨b, 0, none⟩), .int .i64 ((i : Int) + 1), .int .u64 q] w fun e w' => e = .returned (.int .i64 0) ∧ Has o w0 w' (.rstore b (A.set (.begin_ i) q) (wrap64 (rs + 1))) := by
  obtain ⟨x, h⟩ := h.rfOpen
  have hver := at_begin hl
  have hlt := ver_lt hver
  have hok := is_ver hver
  have h9 : A.nV ≤ 9223372036854775807 := Nat.le_trans (RfP.small h).2.1 (by decide)
  obtain ⟨c0, c1, c2, c3, c4, zf⟩ := RfP.fields h
  have z4 := zf 4 (by omega)
  obtain ⟨g, cap, e, hgb, y0, y1, y2, y3, y4, yf, _⟩ := RfP.ver h hlt
  have z1 := yf (i * 5 + 1)
  have HS := Lib.hid ((RfP.putBegin (RfP.putSteps h (wrap64 (rs + 1))) hlt e q).rfShutAs (free_set _ _ _).symm)
  rw [e] at c1
  have HN := Lib.hid (show Calls Tryd.prog 80 #[.pointer (some ⟨b, 0, none⟩), .int .i64 ((i : Int) + 1)] w fun e w' => e = .returned (.bool true) ∧ w' = w from by
    have h5 := rversion_walk h ((i : Int) + 1)
    rw [hok] at h5
    exact h5)
  have hp := rbegins_walk w q hq0 hq1
  rw [hq] at hp
  have HP := Lib.hid hp
  have hb : 0 ≤ (i : Int) ∧ (i : Int) < (A.nV : Int) := by omega
  clear h e hl hok zf yf hp
  go_enter Tryd.func65, Tryd.ntmps65
  go_wp2_with fail
  refine HN.out.mono ?_
  rintro e w' ⟨rfl, rfl⟩
  go_wp2_with fail
  refine HP.out.mono ?_
  rintro e w' ⟨rfl, rfl⟩
  go_wp2_with fail
  go_ret
  exact ⟨rfl, HS.out⟩

set_option maxHeartbeats 1000000 in
set_option maxRecDepth 100000 in
theorem rsetEnd_no (h : Has o w0 w (.rstore b A rs)) (n : Int) (q : Int) (hq0 : 0 ≤ q) (hq1 : q < 18446744073709551616) (hn : A.isV n = false) :
    Calls Tryd.prog 67 #[.pointer (some ⟨b, 0, none⟩), .int .i64 n, .int .u64 q] w fun e w' => e = .returned (.int .i64 110) ∧ w' = w := by
  obtain ⟨x, h⟩ := h.rfOpen
  have HN := Lib.hid (show Calls Tryd.prog 80 #[.pointer (some ⟨b, 0, none⟩), .int .i64 n] w fun e w' => e = .returned (.bool false) ∧ w' = w from by
    have h5 := rversion_walk h n
    rw [hn] at h5
    exact h5)
  have HP := Lib.hid (rparts_walk w q hq0 hq1)
  clear h hn
  go_enter Tryd.func67, Tryd.ntmps67
  go_wp2_with fail
  refine HN.out.mono ?_
  rintro e w' ⟨rfl, rfl⟩
  go_wp2_with fail
  refine HP.out.mono ?_
  rintro e w' ⟨rfl, rfl⟩
  go_wp2_with fail
  go_ret
  exact ⟨rfl, rfl⟩

set_option maxHeartbeats 1000000 in
set_option maxRecDepth 100000 in
theorem rsetEnd_bad (h : Has o w0 w (.rstore b A rs)) (n q : Int) (hn : A.isV n = true) (hq0 : 0 ≤ q) (hq1 : q < 18446744073709551616) (hq : wOk q = false) :
    Calls Tryd.prog 67 #[.pointer (some ⟨b, 0, none⟩), .int .i64 n, .int .u64 q] w fun e w' => e = .returned (.int .i64 50) ∧ w' = w := by
  obtain ⟨x, h⟩ := h.rfOpen
  have HN := Lib.hid (show Calls Tryd.prog 80 #[.pointer (some ⟨b, 0, none⟩), .int .i64 n] w fun e w' => e = .returned (.bool true) ∧ w' = w from by
    have h5 := rversion_walk h n
    rw [hn] at h5
    exact h5)
  have hp := rparts_walk w q hq0 hq1
  rw [hq] at hp
  have HP := Lib.hid hp
  clear h hn hp
  go_enter Tryd.func67, Tryd.ntmps67
  go_wp2_with fail
  refine HN.out.mono ?_
  rintro e w' ⟨rfl, rfl⟩
  go_wp2_with fail
  refine HP.out.mono ?_
  rintro e w' ⟨rfl, rfl⟩
  go_wp2_with fail
  go_ret
  exact ⟨rfl, rfl⟩

set_option maxHeartbeats 1000000 in
set_option maxRecDepth 100000 in
theorem rsetEnd_at (h : Has o w0 w (.rstore b A rs)) (i : Nat) (u q : Int) (hl : A.at_ (.end_ i) = some u) (hq0 : 0 ≤ q) (hq1 : q < 18446744073709551616) (hq : wOk q = true) :
    Calls Tryd.prog 67 #[.pointer (some ⟨b, 0, none⟩), .int .i64 ((i : Int) + 1), .int .u64 q] w fun e w' => e = .returned (.int .i64 0) ∧ Has o w0 w' (.rstore b (A.set (.end_ i) q) (wrap64 (rs + 1))) := by
  obtain ⟨x, h⟩ := h.rfOpen
  have hver := at_end hl
  have hlt := ver_lt hver
  have hok := is_ver hver
  have h9 : A.nV ≤ 9223372036854775807 := Nat.le_trans (RfP.small h).2.1 (by decide)
  obtain ⟨c0, c1, c2, c3, c4, zf⟩ := RfP.fields h
  have z4 := zf 4 (by omega)
  obtain ⟨g, cap, e, hgb, y0, y1, y2, y3, y4, yf, _⟩ := RfP.ver h hlt
  have z1 := yf (i * 5 + 2)
  have HS := Lib.hid ((RfP.putEnd (RfP.putSteps h (wrap64 (rs + 1))) hlt e q).rfShutAs (free_set _ _ _).symm)
  rw [e] at c1
  have HN := Lib.hid (show Calls Tryd.prog 80 #[.pointer (some ⟨b, 0, none⟩), .int .i64 ((i : Int) + 1)] w fun e w' => e = .returned (.bool true) ∧ w' = w from by
    have h5 := rversion_walk h ((i : Int) + 1)
    rw [hok] at h5
    exact h5)
  have hp := rparts_walk w q hq0 hq1
  rw [hq] at hp
  have HP := Lib.hid hp
  have hb : 0 ≤ (i : Int) ∧ (i : Int) < (A.nV : Int) := by omega
  clear h e hl hok zf yf hp
  go_enter Tryd.func67, Tryd.ntmps67
  go_wp2_with fail
  refine HN.out.mono ?_
  rintro e w' ⟨rfl, rfl⟩
  go_wp2_with fail
  refine HP.out.mono ?_
  rintro e w' ⟨rfl, rfl⟩
  go_wp2_with fail
  go_ret
  exact ⟨rfl, HS.out⟩

set_option maxHeartbeats 1000000 in
set_option maxRecDepth 100000 in
theorem rsetState_no (h : Has o w0 w (.rstore b A rs)) (n : Int) (q : Int) (hq0 : 0 ≤ q) (hq1 : q < 18446744073709551616) (hn : A.isT n = false) :
    Calls Tryd.prog 68 #[.pointer (some ⟨b, 0, none⟩), .int .i64 n, .int .u64 q] w fun e w' => e = .returned (.int .i64 110) ∧ w' = w := by
  obtain ⟨x, h⟩ := h.rfOpen
  have HN := Lib.hid (show Calls Tryd.prog 84 #[.pointer (some ⟨b, 0, none⟩), .int .i64 n] w fun e w' => e = .returned (.bool false) ∧ w' = w from by
    have h5 := rtxn_walk h n
    rw [hn] at h5
    exact h5)
  have HP := Lib.hid (runstate_walk w q hq0 hq1)
  clear h hn
  go_enter Tryd.func68, Tryd.ntmps68
  go_wp2_with fail
  refine HN.out.mono ?_
  rintro e w' ⟨rfl, rfl⟩
  go_wp2_with fail
  refine HP.out.mono ?_
  rintro e w' ⟨u1, u2, rfl, rfl⟩
  go_wp2_with fail
  go_ret
  exact ⟨rfl, rfl⟩

set_option maxHeartbeats 1000000 in
set_option maxRecDepth 100000 in
theorem rsetState_bad (h : Has o w0 w (.rstore b A rs)) (n q : Int) (hn : A.isT n = true) (hq0 : 0 ≤ q) (hq1 : q < 18446744073709551616) (hq : uOk q = false) :
    Calls Tryd.prog 68 #[.pointer (some ⟨b, 0, none⟩), .int .i64 n, .int .u64 q] w fun e w' => e = .returned (.int .i64 50) ∧ w' = w := by
  obtain ⟨x, h⟩ := h.rfOpen
  have HN := Lib.hid (show Calls Tryd.prog 84 #[.pointer (some ⟨b, 0, none⟩), .int .i64 n] w fun e w' => e = .returned (.bool true) ∧ w' = w from by
    have h5 := rtxn_walk h n
    rw [hn] at h5
    exact h5)
  have hp := runstate_walk w q hq0 hq1
  rw [hq] at hp
  have HP := Lib.hid hp
  clear h hn hp
  go_enter Tryd.func68, Tryd.ntmps68
  go_wp2_with fail
  refine HN.out.mono ?_
  rintro e w' ⟨rfl, rfl⟩
  go_wp2_with fail
  refine HP.out.mono ?_
  rintro e w' ⟨u1, u2, rfl, rfl⟩
  go_wp2_with fail
  go_ret
  exact ⟨rfl, rfl⟩

set_option maxHeartbeats 1000000 in
set_option maxRecDepth 100000 in
theorem rsetState_at (h : Has o w0 w (.rstore b A rs)) (i : Nat) (u q : Int) (hl : A.at_ (.state i) = some u) (hq0 : 0 ≤ q) (hq1 : q < 18446744073709551616) (hq : uOk q = true) :
    Calls Tryd.prog 68 #[.pointer (some ⟨b, 0, none⟩), .int .i64 ((i : Int) + 1), .int .u64 q] w fun e w' => e = .returned (.int .i64 0) ∧ Has o w0 w' (.rstore b (A.set (.state i) q) (wrap64 (rs + 1))) := by
  obtain ⟨x, h⟩ := h.rfOpen
  have hver := at_state hl
  have hlt := txn_lt hver
  have hok := is_txn hver
  have h9 : A.nT ≤ 9223372036854775807 := Nat.le_trans (RfP.small h).2.2 (by decide)
  obtain ⟨c0, c1, c2, c3, c4, zf⟩ := RfP.fields h
  have z4 := zf 4 (by omega)
  obtain ⟨g, cap, e, hgb, y0, y1, yf, _⟩ := RfP.txn h hlt
  have z1 := yf (i * 2)
  have HS := Lib.hid ((RfP.putState (RfP.putSteps h (wrap64 (rs + 1))) hlt e q).rfShutAs (free_set _ _ _).symm)
  rw [e] at c2
  have HN := Lib.hid (show Calls Tryd.prog 84 #[.pointer (some ⟨b, 0, none⟩), .int .i64 ((i : Int) + 1)] w fun e w' => e = .returned (.bool true) ∧ w' = w from by
    have h5 := rtxn_walk h ((i : Int) + 1)
    rw [hok] at h5
    exact h5)
  have hp := runstate_walk w q hq0 hq1
  rw [hq] at hp
  have HP := Lib.hid hp
  have hb : 0 ≤ (i : Int) ∧ (i : Int) < (A.nT : Int) := by omega
  clear h e hl hok zf yf hp
  go_enter Tryd.func68, Tryd.ntmps68
  go_wp2_with fail
  refine HN.out.mono ?_
  rintro e w' ⟨rfl, rfl⟩
  go_wp2_with fail
  refine HP.out.mono ?_
  rintro e w' ⟨u1, u2, rfl, rfl⟩
  go_wp2_with fail
  go_ret
  exact ⟨rfl, HS.out⟩

set_option maxHeartbeats 1000000 in
set_option maxRecDepth 100000 in
theorem rtakeLock_no (h : Has o w0 w (.rstore b A rs)) (n : Int) (p q : Int) (hn : A.isN n = false) :
    Calls Tryd.prog 57 #[.pointer (some ⟨b, 0, none⟩), .int .i64 n, .int .u64 p, .int .u64 q] w fun e w' => e = .returned (.tuple #[.bool false, .int .i64 110]) ∧ w' = w := by
  obtain ⟨x, h⟩ := h.rfOpen
  have HN := Lib.hid (show Calls Tryd.prog 72 #[.pointer (some ⟨b, 0, none⟩), .int .i64 n] w fun e w' => e = .returned (.bool false) ∧ w' = w from by
    have h5 := rnode_walk h n
    rw [hn] at h5
    exact h5)
  clear h hn
  go_enter Tryd.func57, Tryd.ntmps57
  go_wp2_with fail
  refine HN.out.mono ?_
  rintro e w' ⟨rfl, rfl⟩
  go_wp2_with fail
  go_ret2
  exact ⟨rfl, rfl⟩

set_option maxHeartbeats 1000000 in
set_option maxRecDepth 100000 in
theorem rtakeLock_yes (h : Has o w0 w (.rstore b A rs)) (i : Nat) (p q : Int) (hl : A.at_ (.lock i) = some p) :
    Calls Tryd.prog 57 #[.pointer (some ⟨b, 0, none⟩), .int .i64 ((i : Int) + 1), .int .u64 p, .int .u64 q] w fun e w' => e = .returned (.tuple #[.bool true, .int .i64 0]) ∧ Has o w0 w' (.rstore b (A.set (.lock i) q) (wrap64 (rs + 1))) := by
  obtain ⟨x, h⟩ := h.rfOpen
  have hlt := at_lock hl
  have hok := is_node hlt
  have h9 : A.nN ≤ 9223372036854775807 := Nat.le_trans (RfP.small h).1 (by decide)
  obtain ⟨c0, c1, c2, c3, c4, zf⟩ := RfP.fields h
  have z4 := zf 4 (by omega)
  obtain ⟨g, cap, e, hgb, y0, y1, yf, _, _⟩ := RfP.node h hlt
  rw [in_lock hl] at y1
  have z1 := yf (i * 2 + 1)
  have HS := Lib.hid ((RfP.putLock (RfP.putSteps h (wrap64 (rs + 1))) hlt e q).rfShutAs (free_set _ _ _).symm)
  rw [e] at c0
  have HN := Lib.hid (show Calls Tryd.prog 72 #[.pointer (some ⟨b, 0, none⟩), .int .i64 ((i : Int) + 1)] w fun e w' => e = .returned (.bool true) ∧ w' = w from by
    have h5 := rnode_walk h ((i : Int) + 1)
    rw [hok] at h5
    exact h5)
  have hb : 0 ≤ (i : Int) ∧ (i : Int) < (A.nN : Int) := by omega
  clear h e hl hok zf yf
  go_enter Tryd.func57, Tryd.ntmps57
  go_wp2_with fail
  refine HN.out.mono ?_
  rintro e w' ⟨rfl, rfl⟩
  go_wp2_with fail
  go_ret2
  exact ⟨rfl, HS.out⟩

set_option maxHeartbeats 1000000 in
set_option maxRecDepth 100000 in
theorem rtakeLock_not (h : Has o w0 w (.rstore b A rs)) (i : Nat) (u p q : Int) (hl : A.at_ (.lock i) = some u) (hne : u ≠ p) :
    Calls Tryd.prog 57 #[.pointer (some ⟨b, 0, none⟩), .int .i64 ((i : Int) + 1), .int .u64 p, .int .u64 q] w fun e w' => e = .returned (.tuple #[.bool false, .int .i64 0]) ∧ Has o w0 w' (.rstore b A (wrap64 (rs + 1))) := by
  obtain ⟨x, h⟩ := h.rfOpen
  have hlt := at_lock hl
  have hok := is_node hlt
  have h9 : A.nN ≤ 9223372036854775807 := Nat.le_trans (RfP.small h).1 (by decide)
  obtain ⟨c0, c1, c2, c3, c4, zf⟩ := RfP.fields h
  have z4 := zf 4 (by omega)
  obtain ⟨g, cap, e, hgb, y0, y1, yf, _, _⟩ := RfP.node h hlt
  rw [in_lock hl] at y1
  have z1 := yf (i * 2 + 1)
  have HS := Lib.hid ((RfP.putSteps h (wrap64 (rs + 1))).rfShut)
  rw [e] at c0
  have HN := Lib.hid (show Calls Tryd.prog 72 #[.pointer (some ⟨b, 0, none⟩), .int .i64 ((i : Int) + 1)] w fun e w' => e = .returned (.bool true) ∧ w' = w from by
    have h5 := rnode_walk h ((i : Int) + 1)
    rw [hok] at h5
    exact h5)
  have hb : 0 ≤ (i : Int) ∧ (i : Int) < (A.nN : Int) := by omega
  have f1 : decide (u = p) = false := by simpa using hne
  have f2 : (u == p) = false := by simpa using hne
  have f3 : (u != p) = true := by simpa using hne
  clear h e hl hok zf yf
  go_enter Tryd.func57, Tryd.ntmps57
  go_wp2_with fail
  refine HN.out.mono ?_
  rintro e w' ⟨rfl, rfl⟩
  go_wp2_with fail
  go_ret2
  exact ⟨rfl, HS.out⟩

set_option maxHeartbeats 1000000 in
set_option maxRecDepth 100000 in
theorem rtakeEnd_no (h : Has o w0 w (.rstore b A rs)) (n : Int) (p q : Int) (hq0 : 0 ≤ q) (hq1 : q < 18446744073709551616) (hn : A.isV n = false) :
    Calls Tryd.prog 55 #[.pointer (some ⟨b, 0, none⟩), .int .i64 n, .int .u64 p, .int .u64 q] w fun e w' => e = .returned (.tuple #[.bool false, .int .i64 110]) ∧ w' = w := by
  obtain ⟨x, h⟩ := h.rfOpen
  have HN := Lib.hid (show Calls Tryd.prog 80 #[.pointer (some ⟨b, 0, none⟩), .int .i64 n] w fun e w' => e = .returned (.bool false) ∧ w' = w from by
    have h5 := rversion_walk h n
    rw [hn] at h5
    exact h5)
  have HP := Lib.hid (rparts_walk w q hq0 hq1)
  clear h hn
  go_enter Tryd.func55, Tryd.ntmps55
  go_wp2_with fail
  refine HN.out.mono ?_
  rintro e w' ⟨rfl, rfl⟩
  go_wp2_with fail
  refine HP.out.mono ?_
  rintro e w' ⟨rfl, rfl⟩
  go_wp2_with fail
  go_ret2
  exact ⟨rfl, rfl⟩

set_option maxHeartbeats 1000000 in
set_option maxRecDepth 100000 in
theorem rtakeEnd_bad (h : Has o w0 w (.rstore b A rs)) (n p q : Int) (hn : A.isV n = true) (hq0 : 0 ≤ q) (hq1 : q < 18446744073709551616) (hq : wOk q = false) :
    Calls Tryd.prog 55 #[.pointer (some ⟨b, 0, none⟩), .int .i64 n, .int .u64 p, .int .u64 q] w fun e w' => e = .returned (.tuple #[.bool false, .int .i64 50]) ∧ w' = w := by
  obtain ⟨x, h⟩ := h.rfOpen
  have HN := Lib.hid (show Calls Tryd.prog 80 #[.pointer (some ⟨b, 0, none⟩), .int .i64 n] w fun e w' => e = .returned (.bool true) ∧ w' = w from by
    have h5 := rversion_walk h n
    rw [hn] at h5
    exact h5)
  have hp := rparts_walk w q hq0 hq1
  rw [hq] at hp
  have HP := Lib.hid hp
  clear h hn hp
  go_enter Tryd.func55, Tryd.ntmps55
  go_wp2_with fail
  refine HN.out.mono ?_
  rintro e w' ⟨rfl, rfl⟩
  go_wp2_with fail
  refine HP.out.mono ?_
  rintro e w' ⟨rfl, rfl⟩
  go_wp2_with fail
  go_ret2
  exact ⟨rfl, rfl⟩

set_option maxHeartbeats 1000000 in
set_option maxRecDepth 100000 in
theorem rtakeEnd_yes (h : Has o w0 w (.rstore b A rs)) (i : Nat) (p q : Int) (hl : A.at_ (.end_ i) = some p) (hq0 : 0 ≤ q) (hq1 : q < 18446744073709551616) (hq : wOk q = true) :
    Calls Tryd.prog 55 #[.pointer (some ⟨b, 0, none⟩), .int .i64 ((i : Int) + 1), .int .u64 p, .int .u64 q] w fun e w' => e = .returned (.tuple #[.bool true, .int .i64 0]) ∧ Has o w0 w' (.rstore b (A.set (.end_ i) q) (wrap64 (rs + 1))) := by
  obtain ⟨x, h⟩ := h.rfOpen
  have hver := at_end hl
  have hlt := ver_lt hver
  have hok := is_ver hver
  have h9 : A.nV ≤ 9223372036854775807 := Nat.le_trans (RfP.small h).2.1 (by decide)
  obtain ⟨c0, c1, c2, c3, c4, zf⟩ := RfP.fields h
  have z4 := zf 4 (by omega)
  obtain ⟨g, cap, e, hgb, y0, y1, y2, y3, y4, yf, _⟩ := RfP.ver h hlt
  rw [in_end hl] at y2
  have z1 := yf (i * 5 + 2)
  have HS := Lib.hid ((RfP.putEnd (RfP.putSteps h (wrap64 (rs + 1))) hlt e q).rfShutAs (free_set _ _ _).symm)
  rw [e] at c1
  have HN := Lib.hid (show Calls Tryd.prog 80 #[.pointer (some ⟨b, 0, none⟩), .int .i64 ((i : Int) + 1)] w fun e w' => e = .returned (.bool true) ∧ w' = w from by
    have h5 := rversion_walk h ((i : Int) + 1)
    rw [hok] at h5
    exact h5)
  have hp := rparts_walk w q hq0 hq1
  rw [hq] at hp
  have HP := Lib.hid hp
  have hb : 0 ≤ (i : Int) ∧ (i : Int) < (A.nV : Int) := by omega
  clear h e hl hok zf yf hp
  go_enter Tryd.func55, Tryd.ntmps55
  go_wp2_with fail
  refine HN.out.mono ?_
  rintro e w' ⟨rfl, rfl⟩
  go_wp2_with fail
  refine HP.out.mono ?_
  rintro e w' ⟨rfl, rfl⟩
  go_wp2_with fail
  go_ret2
  exact ⟨rfl, HS.out⟩

set_option maxHeartbeats 1000000 in
set_option maxRecDepth 100000 in
theorem rtakeEnd_not (h : Has o w0 w (.rstore b A rs)) (i : Nat) (u p q : Int) (hl : A.at_ (.end_ i) = some u) (hne : u ≠ p) (hq0 : 0 ≤ q) (hq1 : q < 18446744073709551616) (hq : wOk q = true) :
    Calls Tryd.prog 55 #[.pointer (some ⟨b, 0, none⟩), .int .i64 ((i : Int) + 1), .int .u64 p, .int .u64 q] w fun e w' => e = .returned (.tuple #[.bool false, .int .i64 0]) ∧ Has o w0 w' (.rstore b A (wrap64 (rs + 1))) := by
  obtain ⟨x, h⟩ := h.rfOpen
  have hver := at_end hl
  have hlt := ver_lt hver
  have hok := is_ver hver
  have h9 : A.nV ≤ 9223372036854775807 := Nat.le_trans (RfP.small h).2.1 (by decide)
  obtain ⟨c0, c1, c2, c3, c4, zf⟩ := RfP.fields h
  have z4 := zf 4 (by omega)
  obtain ⟨g, cap, e, hgb, y0, y1, y2, y3, y4, yf, _⟩ := RfP.ver h hlt
  rw [in_end hl] at y2
  have z1 := yf (i * 5 + 2)
  have HS := Lib.hid ((RfP.putSteps h (wrap64 (rs + 1))).rfShut)
  rw [e] at c1
  have HN := Lib.hid (show Calls Tryd.prog 80 #[.pointer (some ⟨b, 0, none⟩), .int .i64 ((i : Int) + 1)] w fun e w' => e = .returned (.bool true) ∧ w' = w from by
    have h5 := rversion_walk h ((i : Int) + 1)
    rw [hok] at h5
    exact h5)
  have hp := rparts_walk w q hq0 hq1
  rw [hq] at hp
  have HP := Lib.hid hp
  have hb : 0 ≤ (i : Int) ∧ (i : Int) < (A.nV : Int) := by omega
  have f1 : decide (u = p) = false := by simpa using hne
  have f2 : (u == p) = false := by simpa using hne
  have f3 : (u != p) = true := by simpa using hne
  clear h e hl hok zf yf hp
  go_enter Tryd.func55, Tryd.ntmps55
  go_wp2_with fail
  refine HN.out.mono ?_
  rintro e w' ⟨rfl, rfl⟩
  go_wp2_with fail
  refine HP.out.mono ?_
  rintro e w' ⟨rfl, rfl⟩
  go_wp2_with fail
  go_ret2
  exact ⟨rfl, HS.out⟩

set_option maxHeartbeats 1000000 in
set_option maxRecDepth 100000 in
theorem rpush_no (h : Has o w0 w (.rstore b A rs)) (n p q : Int) (hn : A.isN n = false ∨ (p ≠ 0 ∧ A.isV p = false) ∨ A.isV q = false) :
    Calls Tryd.prog 54 #[.pointer (some ⟨b, 0, none⟩), .int .i64 n, .int .i64 p, .int .i64 q] w fun e w' => e = .returned (.tuple #[.bool false, .int .i64 110]) ∧ w' = w := by
  obtain ⟨x, h⟩ := h.rfOpen
  have HN := Lib.hid (rnode_walk h n)
  have HP := Lib.hid (rversion_walk h p)
  have HQ := Lib.hid (rversion_walk h q)
  clear h
  generalize A.isN n = bn at *
  generalize A.isV p = bp at *
  generalize A.isV q = bq at *
  go_enter Tryd.func54, Tryd.ntmps54
  go_wp2_with fail
  refine HN.out.mono ?_
  rintro e w' ⟨rfl, rfl⟩
  go_wp2_with fail
  refine HP.out.mono ?_
  rintro e w' ⟨rfl, rfl⟩
  go_wp2_with fail
  refine HQ.out.mono ?_
  rintro e w' ⟨rfl, rfl⟩
  by_cases hp0 : p = 0
  · subst hp0
    cases bn <;> cases bq <;> simp at hn
    all_goals (
      go_wp2_with fail
      go_ret2
      exact ⟨rfl, rfl⟩)
  · have f1 : decide (p = 0) = false := by simpa using hp0
    have f2 : (p == 0) = false := by simpa using hp0
    have f3 : (p != 0) = true := by simpa using hp0
    cases bn <;> cases bq <;> cases bp <;> simp [hp0] at hn
    all_goals (
      go_wp2_with fail
      go_ret2
      exact ⟨rfl, rfl⟩)

set_option maxHeartbeats 1000000 in
set_option maxRecDepth 100000 in
theorem rpush_yes (h : Has o w0 w (.rstore b A rs)) (i : Nat) (p q : Int) (hl : A.at_ (.head i) = some p) (hp : p = 0 ∨ A.isV p = true) (hq : A.isV q = true) :
    Calls Tryd.prog 54 #[.pointer (some ⟨b, 0, none⟩), .int .i64 ((i : Int) + 1), .int .i64 p, .int .i64 q] w fun e w' => e = .returned (.tuple #[.bool true, .int .i64 0]) ∧ Has o w0 w' (.rstore b (A.set (.head i) q) (wrap64 (rs + 1))) := by
  obtain ⟨x, h⟩ := h.rfOpen
  have hlt := at_head hl
  have hok := is_node hlt
  have h9 : A.nN ≤ 9223372036854775807 := Nat.le_trans (RfP.small h).1 (by decide)
  obtain ⟨c0, c1, c2, c3, c4, zf⟩ := RfP.fields h
  have z4 := zf 4 (by omega)
  obtain ⟨g, cap, e, hgb, y0, y1, yf, _, _⟩ := RfP.node h hlt
  rw [in_head hl] at y0
  have z1 := yf (i * 2)
  have HS := Lib.hid ((RfP.putHead (RfP.putSteps h (wrap64 (rs + 1))) hlt e q).rfShutAs (free_set _ _ _).symm)
  rw [e] at c0
  have HN := Lib.hid (show Calls Tryd.prog 72 #[.pointer (some ⟨b, 0, none⟩), .int .i64 ((i : Int) + 1)] w fun e w' => e = .returned (.bool true) ∧ w' = w from by
    have h5 := rnode_walk h ((i : Int) + 1)
    rw [hok] at h5
    exact h5)
  have HP := Lib.hid (rversion_walk h p)
  have hQ := rversion_walk h q
  rw [hq] at hQ
  have HQ := Lib.hid hQ
  have hb : 0 ≤ (i : Int) ∧ (i : Int) < (A.nN : Int) := by omega
  clear h e hl hok zf yf hQ hq
  generalize A.isV p = bp at *
  go_enter Tryd.func54, Tryd.ntmps54
  go_wp2_with fail
  refine HN.out.mono ?_
  rintro e w' ⟨rfl, rfl⟩
  go_wp2_with fail
  refine HP.out.mono ?_
  rintro e w' ⟨rfl, rfl⟩
  go_wp2_with fail
  refine HQ.out.mono ?_
  rintro e w' ⟨rfl, rfl⟩
  by_cases hp0 : p = 0
  · subst hp0
    go_wp2_with fail
    go_ret2
    exact ⟨rfl, HS.out⟩
  · have g1 : decide (p = 0) = false := by simpa using hp0
    have g2 : (p == 0) = false := by simpa using hp0
    have g3 : (p != 0) = true := by simpa using hp0
    obtain rfl := hp.resolve_left hp0
    go_wp2_with fail
    go_ret2
    exact ⟨rfl, HS.out⟩

set_option maxHeartbeats 1000000 in
set_option maxRecDepth 100000 in
theorem rpush_not (h : Has o w0 w (.rstore b A rs)) (i : Nat) (u p q : Int) (hl : A.at_ (.head i) = some u) (hne : u ≠ p) (hp : p = 0 ∨ A.isV p = true) (hq : A.isV q = true) :
    Calls Tryd.prog 54 #[.pointer (some ⟨b, 0, none⟩), .int .i64 ((i : Int) + 1), .int .i64 p, .int .i64 q] w fun e w' => e = .returned (.tuple #[.bool false, .int .i64 0]) ∧ Has o w0 w' (.rstore b A (wrap64 (rs + 1))) := by
  obtain ⟨x, h⟩ := h.rfOpen
  have hlt := at_head hl
  have hok := is_node hlt
  have h9 : A.nN ≤ 9223372036854775807 := Nat.le_trans (RfP.small h).1 (by decide)
  obtain ⟨c0, c1, c2, c3, c4, zf⟩ := RfP.fields h
  have z4 := zf 4 (by omega)
  obtain ⟨g, cap, e, hgb, y0, y1, yf, _, _⟩ := RfP.node h hlt
  rw [in_head hl] at y0
  have z1 := yf (i * 2)
  have HS := Lib.hid ((RfP.putSteps h (wrap64 (rs + 1))).rfShut)
  rw [e] at c0
  have HN := Lib.hid (show Calls Tryd.prog 72 #[.pointer (some ⟨b, 0, none⟩), .int .i64 ((i : Int) + 1)] w fun e w' => e = .returned (.bool true) ∧ w' = w from by
    have h5 := rnode_walk h ((i : Int) + 1)
    rw [hok] at h5
    exact h5)
  have HP := Lib.hid (rversion_walk h p)
  have hQ := rversion_walk h q
  rw [hq] at hQ
  have HQ := Lib.hid hQ
  have hb : 0 ≤ (i : Int) ∧ (i : Int) < (A.nN : Int) := by omega
  have f1 : decide (u = p) = false := by simpa using hne
  have f2 : (u == p) = false := by simpa using hne
  have f3 : (u != p) = true := by simpa using hne
  clear h e hl hok zf yf hQ hq
  generalize A.isV p = bp at *
  go_enter Tryd.func54, Tryd.ntmps54
  go_wp2_with fail
  refine HN.out.mono ?_
  rintro e w' ⟨rfl, rfl⟩
  go_wp2_with fail
  refine HP.out.mono ?_
  rintro e w' ⟨rfl, rfl⟩
  go_wp2_with fail
  refine HQ.out.mono ?_
  rintro e w' ⟨rfl, rfl⟩
  by_cases hp0 : p = 0
  · subst hp0
    go_wp2_with fail
    go_ret2
    exact ⟨rfl, HS.out⟩
  · have g1 : decide (p = 0) = false := by simpa using hp0
    have g2 : (p == 0) = false := by simpa using hp0
    have g3 : (p != 0) = true := by simpa using hp0
    obtain rfl := hp.resolve_left hp0
    go_wp2_with fail
    go_ret2
    exact ⟨rfl, HS.out⟩

set_option maxHeartbeats 1000000 in
set_option maxRecDepth 100000 in
theorem rval_no (h : Has o w0 w (.rstore b A rs)) (n : Int) (hn : A.isV n = false) :
    Calls Tryd.prog 71 #[.pointer (some ⟨b, 0, none⟩), .int .i64 n] w fun e w' => e = .returned (.tuple #[.string default, .int .i64 110]) ∧ w' = w := by
  obtain ⟨x, h⟩ := h.rfOpen
  have HN := Lib.hid (show Calls Tryd.prog 80 #[.pointer (some ⟨b, 0, none⟩), .int .i64 n] w fun e w' => e = .returned (.bool false) ∧ w' = w from by
    have h5 := rversion_walk h n
    rw [hn] at h5
    exact h5)
  clear h hn
  go_enter Tryd.func71, Tryd.ntmps71
  go_wp2_with fail
  refine HN.out.mono ?_
  rintro e w' ⟨rfl, rfl⟩
  go_wp2_with fail
  go_ret2
  exact ⟨rfl, rfl⟩

set_option maxHeartbeats 1000000 in
set_option maxRecDepth 100000 in
theorem rval_at (h : Has o w0 w (.rstore b A rs)) (i : Nat) (hver : A.ver i = true) :
    Calls Tryd.prog 71 #[.pointer (some ⟨b, 0, none⟩), .int .i64 ((i : Int) + 1)] w fun e w' => e = .returned (.tuple #[.string (A.V i).val, .int .i64 0]) ∧ w' = w := by
  obtain ⟨x, h⟩ := h.rfOpen
  have hlt := ver_lt hver
  have hok := is_ver hver
  have h9 : A.nV ≤ 9223372036854775807 := Nat.le_trans (RfP.small h).2.1 (by decide)
  obtain ⟨c0, c1, c2, c3, c4, zf⟩ := RfP.fields h
  obtain ⟨g, cap, e, hgb, y0, y1, y2, y3, y4, yf, _⟩ := RfP.ver h hlt
  rw [e] at c1
  have HN := Lib.hid (show Calls Tryd.prog 80 #[.pointer (some ⟨b, 0, none⟩), .int .i64 ((i : Int) + 1)] w fun e w' => e = .returned (.bool true) ∧ w' = w from by
    have h5 := rversion_walk h ((i : Int) + 1)
    rw [hok] at h5
    exact h5)
  have hb : 0 ≤ (i : Int) ∧ (i : Int) < (A.nV : Int) := by omega
  generalize (A.V i).val = val at *
  clear h e hok zf yf
  go_enter Tryd.func71, Tryd.ntmps71
  go_wp2_with fail
  refine HN.out.mono ?_
  rintro e w' ⟨rfl, rfl⟩
  go_wp2_with fail
  go_ret2
  exact ⟨rfl, rfl⟩

end Go.Proofs.YtlaffmdflleeeaaDoor
