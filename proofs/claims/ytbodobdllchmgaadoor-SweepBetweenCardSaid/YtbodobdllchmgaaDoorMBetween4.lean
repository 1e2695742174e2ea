/- The walks of a store's own look-ups: which node, version, transaction; none.
The walks of what the store asks of words.
The walks of a store's loads and swaps.
The walks of give and take: cells given back, cells taken. -/
import Derived.Test.YtbodobdllchmgaaDoorMBetween3
import Derived.Deep.RegionHeld3
namespace Go.Proofs.YtbodobdllchmgaaDoor
open Go Go.RowKit
set_option linter.unusedVariables false

variable {o : List Nat} {w0 w : World} {b : Nat} {x : StIx} {A : ASt}

theorem StP.fields (h : Has o w0 w (StP b x A)) : w.cell? ⟨b, 0, none⟩ = some (.pointer (some ⟨x.ab, 0, none⟩)) ∧ w.cell? ⟨b, 1, none⟩ = some x.nv ∧ w.cell? ⟨b, 2, none⟩ = some x.vv ∧ w.cell? ⟨b, 3, none⟩ = some x.tv := by
  obtain ⟨o1, h1, _⟩ := h.left
  obtain ⟨o2, h2, _⟩ := h1.left
  exact ⟨(h2.blkAt (i := 0) (by omega)).1, (h2.blkAt (i := 1) (by omega)).1, (h2.blkAt (i := 2) (by omega)).1, (h2.blkAt (i := 3) (by omega)).1⟩

theorem StP.nodes (h : Has o w0 w (StP b x A)) : ∃ o', Has o' w w (.rows 96 2 x.nv A.nN (nodeF x.C)) := by
  obtain ⟨o1, h1, _⟩ := h.right
  obtain ⟨o2, h2, _⟩ := h1.left
  exact ⟨o2, h2⟩
theorem StP.vers (h : Has o w0 w (StP b x A)) : ∃ o', Has o' w w (.rows 103 5 x.vv A.nV (verF x.C A)) := by
  obtain ⟨o1, h1, _⟩ := h.right
  obtain ⟨o2, h2, _⟩ := h1.right
  obtain ⟨o3, h3, _⟩ := h2.left
  exact ⟨o3, h3⟩
theorem StP.txns (h : Has o w0 w (StP b x A)) : ∃ o', Has o' w w (.rows 148 2 x.tv A.nT (txnF x.C A)) := by
  obtain ⟨o1, h1, _⟩ := h.right
  obtain ⟨o2, h2, _⟩ := h1.right
  obtain ⟨o3, h3, _⟩ := h2.right
  exact ⟨o3, h3⟩

theorem nodeF_len (C : Cells) (i : Nat) : (nodeF C i).length = 2 := rfl
theorem verF_len (C : Cells) (A : ASt) (i : Nat) : (verF C A i).length = 5 := rfl
theorem txnF_len (C : Cells) (A : ASt) (i : Nat) : (txnF C A i).length = 2 := rfl

set_option maxHeartbeats 1000000 in
set_option maxRecDepth 100000 in
theorem version_no (h : Has o w0 w (StP b x A)) (n : Int) (hn : ∀ i : Nat, n = (i : Int) + 1 → A.ver i = false) :
    Calls Tryd.prog 53 #[.pointer (some ⟨b, 0, none⟩), .int .i64 n] w fun e w' => e = .returned (.pointer none) ∧ w' = w := by
  obtain ⟨_, _, c2, _⟩ := StP.fields h
  obtain ⟨o2, h2⟩ := StP.vers h
  obtain ⟨vp, vc, hvv⟩ := h2.rowsSlice
  have HR := Lib.hid h2
  have HN := Lib.hid hn
  rw [hvv] at c2
  have h9 : A.nV ≤ 9223372036854775807 := Nat.le_trans h2.rowsSmall (by decide)
  clear h h2 hn
  go_enter Tryd.func53, Tryd.ntmps53
  by_cases h1 : n < 1
  · have d1 : decide (n < 1) = true := by simpa using h1
    go_wp2_with fail
    go_ret
    exact ⟨rfl, rfl⟩
  have d1 : decide (n < 1) = false := by simpa using h1
  by_cases h3 : (A.nV : Int) < n
  · have d2 : decide (n > (A.nV : Int)) = true := by simpa using h3
    go_wp2_with fail
    go_ret
    exact ⟨rfl, rfl⟩
  have d2 : decide (n > (A.nV : Int)) = false := by simp; omega
  obtain ⟨i, hi⟩ : ∃ i : Nat, n = (i : Int) + 1 := ⟨(n - 1).toNat, by omega⟩
  have hg := HN.out i hi
  have hin : i < A.nV := by omega
  have hgone : (A.V i).gone = true := by
    unfold ASt.ver at hg
    simpa [hin] using hg
  obtain ⟨g, cap, e, hc, _, _⟩ := HR.out.rowsAt (verF_len _ _) hin
  rw [e] at hvv
  obtain ⟨rfl, rfl⟩ : vp = some ⟨g, 0, none⟩ ∧ vc = cap := by simpa using hvv.symm
  have cg := hc 4 (.bool true) (by rw [← hgone]; rfl)
  have hb : 0 ≤ n - 1 ∧ n - 1 < (A.nV : Int) := by omega
  have hnn : n - 1 = (i : Int) := by omega
  clear hc HN HR
  subst hi
  go_wp2_with fail
  go_ret
  exact ⟨rfl, rfl⟩

set_option maxHeartbeats 1000000 in
set_option maxRecDepth 100000 in
theorem version_at (h : Has o w0 w (StP b x A)) (i : Nat) (hv : A.ver i = true) {g cap : Nat} (hvv : x.vv = .slice (some ⟨g, 0, none⟩) A.nV cap) :
    Calls Tryd.prog 53 #[.pointer (some ⟨b, 0, none⟩), .int .i64 ((i : Int) + 1)] w fun e w' => e = .returned (.pointer (some ⟨g, i * 5, none⟩)) ∧ w' = w := by
  obtain ⟨_, _, c2, _⟩ := StP.fields h
  obtain ⟨o2, h2⟩ := StP.vers h
  have h9 : A.nV ≤ 9223372036854775807 := Nat.le_trans h2.rowsSmall (by decide)
  obtain ⟨hin, hgone⟩ : i < A.nV ∧ (A.V i).gone = false := by unfold ASt.ver at hv; simpa using hv
  obtain ⟨g', cap', e, hc, _, _⟩ := h2.rowsAt (verF_len _ _) hin
  rw [hvv] at e c2
  obtain ⟨rfl, rfl⟩ : g = g' ∧ cap = cap' := by simpa using e
  have cg := hc 4 (.bool false) (by rw [← hgone]; rfl)
  have hb : 0 ≤ (i : Int) ∧ (i : Int) < (A.nV : Int) := by omega
  have d1 : decide ((i : Int) + 1 < 1) = false := by simp; omega
  have d2 : decide ((i : Int) + 1 > (A.nV : Int)) = false := by simp; omega
  clear h h2 hc e hv hvv
  go_enter Tryd.func53, Tryd.ntmps53
  go_wp2_with fail
  go_ret
  exact ⟨rfl, rfl⟩
set_option maxHeartbeats 1000000 in
set_option maxRecDepth 100000 in
theorem node_no (h : Has o w0 w (StP b x A)) (n : Int) (hn : ∀ i : Nat, n = (i : Int) + 1 → A.nN ≤ i) :
    Calls Tryd.prog 49 #[.pointer (some ⟨b, 0, none⟩), .int .i64 n] w fun e w' => e = .returned (.pointer none) ∧ w' = w := by
  obtain ⟨_, c2, _, _⟩ := StP.fields h
  obtain ⟨o2, h2⟩ := StP.nodes h
  obtain ⟨vp, vc, hvv⟩ := h2.rowsSlice
  have HR := Lib.hid h2
  have HN := Lib.hid hn
  rw [hvv] at c2
  have h9 : A.nN ≤ 9223372036854775807 := Nat.le_trans h2.rowsSmall (by decide)
  clear h h2 hn
  go_enter Tryd.func49, Tryd.ntmps49
  by_cases h1 : n < 1
  · have d1 : decide (n < 1) = true := by simpa using h1
    go_wp2_with fail
    go_ret
    exact ⟨rfl, rfl⟩
  have d1 : decide (n < 1) = false := by simpa using h1
  by_cases h3 : (A.nN : Int) < n
  · have d2 : decide (n > (A.nN : Int)) = true := by simpa using h3
    go_wp2_with fail
    go_ret
    exact ⟨rfl, rfl⟩
  have d2 : decide (n > (A.nN : Int)) = false := by simp; omega
  obtain ⟨i, hi⟩ : ∃ i : Nat, n = (i : Int) + 1 := ⟨(n - 1).toNat, by omega⟩
  have hg := HN.out i hi
  omega

set_option maxHeartbeats 1000000 in
set_option maxRecDepth 100000 in
theorem node_at (h : Has o w0 w (StP b x A)) (i : Nat) (hin : i < A.nN) {g cap : Nat} (hvv : x.nv = .slice (some ⟨g, 0, none⟩) A.nN cap) :
    Calls Tryd.prog 49 #[.pointer (some ⟨b, 0, none⟩), .int .i64 ((i : Int) + 1)] w fun e w' => e = .returned (.pointer (some ⟨g, i * 2, none⟩)) ∧ w' = w := by
  obtain ⟨_, c2, _, _⟩ := StP.fields h
  obtain ⟨o2, h2⟩ := StP.nodes h
  have h9 : A.nN ≤ 9223372036854775807 := Nat.le_trans h2.rowsSmall (by decide)
  obtain ⟨g', cap', e, hc, _, _⟩ := h2.rowsAt (nodeF_len _) hin
  rw [hvv] at e c2
  obtain ⟨rfl, rfl⟩ : g = g' ∧ cap = cap' := by simpa using e
  have hb : 0 ≤ (i : Int) ∧ (i : Int) < (A.nN : Int) := by omega
  have d1 : decide ((i : Int) + 1 < 1) = false := by simp; omega
  have d2 : decide ((i : Int) + 1 > (A.nN : Int)) = false := by simp; omega
  clear h h2 hc e hvv
  go_enter Tryd.func49, Tryd.ntmps49
  go_wp2_with fail
  go_ret
  exact ⟨rfl, rfl⟩
set_option maxHeartbeats 1000000 in
set_option maxRecDepth 100000 in
theorem none_walk (w : World) (b : Nat) : Calls Tryd.prog 50 #[.pointer (some ⟨b, 0, none⟩)] w fun e w' => e = .returned (.int .i64 110) ∧ w' = w := by
  go_enter Tryd.func50, Tryd.ntmps50
  go_wp2_with fail
  go_ret
  exact ⟨rfl, rfl⟩

theorem StP.verCells (h : Has o w0 w (StP b x A)) {i : Nat} (hi : i < A.nV) {g cap : Nat} (hvv : x.vv = .slice (some ⟨g, 0, none⟩) A.nV cap) :
    w.cell? ⟨g, i * 5, none⟩ = some (.string (A.V i).val) ∧ w.cell? ⟨g, i * 5 + 1, none⟩ = some (.int .i64 (x.C.v i).1) ∧ w.cell? ⟨g, i * 5 + 2, none⟩ = some (.int .i64 (x.C.v i).2.1) ∧ w.cell? ⟨g, i * 5 + 3, none⟩ = some (.int .i64 (x.C.v i).2.2) := by
  obtain ⟨o2, h2⟩ := StP.vers h
  obtain ⟨g', cap', e, hc, _, _⟩ := h2.rowsAt (verF_len _ _) hi
  rw [hvv] at e
  obtain ⟨rfl, rfl⟩ : g = g' ∧ cap = cap' := by simpa using e
  exact ⟨hc 0 _ rfl, hc 1 _ rfl, hc 2 _ rfl, hc 3 _ rfl⟩
theorem StP.verSlice (h : Has o w0 w (StP b x A)) {i : Nat} (hi : i < A.nV) : ∃ g cap, x.vv = .slice (some ⟨g, 0, none⟩) A.nV cap := by
  obtain ⟨o2, h2⟩ := StP.vers h
  obtain ⟨g', cap', e, _⟩ := h2.rowsAt (verF_len _ _) hi
  exact ⟨g', cap', e⟩
theorem StP.nodeCells (h : Has o w0 w (StP b x A)) {i : Nat} (hi : i < A.nN) {g cap : Nat} (hvv : x.nv = .slice (some ⟨g, 0, none⟩) A.nN cap) :
    w.cell? ⟨g, i * 2, none⟩ = some (.int .i64 (x.C.n i).1) ∧ w.cell? ⟨g, i * 2 + 1, none⟩ = some (.int .i64 (x.C.n i).2) := by
  obtain ⟨o2, h2⟩ := StP.nodes h
  obtain ⟨g', cap', e, hc, _, _⟩ := h2.rowsAt (nodeF_len _) hi
  rw [hvv] at e
  obtain ⟨rfl, rfl⟩ : g = g' ∧ cap = cap' := by simpa using e
  exact ⟨hc 0 _ rfl, hc 1 _ rfl⟩
theorem StP.nodeSlice (h : Has o w0 w (StP b x A)) {i : Nat} (hi : i < A.nN) : ∃ g cap, x.nv = .slice (some ⟨g, 0, none⟩) A.nN cap := by
  obtain ⟨o2, h2⟩ := StP.nodes h
  obtain ⟨g', cap', e, _⟩ := h2.rowsAt (nodeF_len _) hi
  exact ⟨g', cap', e⟩
theorem StP.txnCells (h : Has o w0 w (StP b x A)) {i : Nat} (hi : i < A.nT) {g cap : Nat} (hvv : x.tv = .slice (some ⟨g, 0, none⟩) A.nT cap) :
    w.cell? ⟨g, i * 2, none⟩ = some (.int .i64 (x.C.t i)) ∧ w.cell? ⟨g, i * 2 + 1, none⟩ = some (.bool (A.T i).2) := by
  obtain ⟨o2, h2⟩ := StP.txns h
  obtain ⟨g', cap', e, hc, _, _⟩ := h2.rowsAt (txnF_len _ _) hi
  rw [hvv] at e
  obtain ⟨rfl, rfl⟩ : g = g' ∧ cap = cap' := by simpa using e
  exact ⟨hc 0 _ rfl, hc 1 _ rfl⟩
theorem StP.txnSlice (h : Has o w0 w (StP b x A)) {i : Nat} (hi : i < A.nT) : ∃ g cap, x.tv = .slice (some ⟨g, 0, none⟩) A.nT cap := by
  obtain ⟨o2, h2⟩ := StP.txns h
  obtain ⟨g', cap', e, _⟩ := h2.rowsAt (txnF_len _ _) hi
  exact ⟨g', cap', e⟩

theorem at_head {A : ASt} {i : Nat} {v : Int} (h : A.at_ (.head i) = some v) : i < A.nN := by
  unfold ASt.at_ at h
  by_cases e : i < A.nN
  · exact e
  · simp [e] at h
theorem at_lock {A : ASt} {i : Nat} {v : Int} (h : A.at_ (.lock i) = some v) : i < A.nN := by
  unfold ASt.at_ at h
  by_cases e : i < A.nN
  · exact e
  · simp [e] at h
theorem ver_lt {A : ASt} {i : Nat} (h : A.ver i = true) : i < A.nV := by unfold ASt.ver at h; simp at h; exact h.1
theorem txn_lt {A : ASt} {i : Nat} (h : A.txn i = true) : i < A.nT := by unfold ASt.txn at h; simp at h; exact h.1
theorem at_begin {A : ASt} {i : Nat} {v : Int} (h : A.at_ (.begin_ i) = some v) : A.ver i = true := by
  unfold ASt.at_ at h
  cases e : A.ver i
  · simp [e] at h
  · rfl
theorem at_end {A : ASt} {i : Nat} {v : Int} (h : A.at_ (.end_ i) = some v) : A.ver i = true := by
  unfold ASt.at_ at h
  cases e : A.ver i
  · simp [e] at h
  · rfl
theorem at_next {A : ASt} {i : Nat} {v : Int} (h : A.at_ (.next i) = some v) : A.ver i = true := by
  unfold ASt.at_ at h
  cases e : A.ver i
  · simp [e] at h
  · rfl
theorem at_state {A : ASt} {i : Nat} {v : Int} (h : A.at_ (.state i) = some v) : A.txn i = true := by
  unfold ASt.at_ at h
  cases e : A.txn i
  · simp [e] at h
  · rfl

/-- The arena's steps, under a store. -/
theorem stp_arena (h : Has o w0 w (StP b x A)) : ∃ o', OwnF o' w w x.ab x.S ∧ (∀ y ∈ o', y ∈ o ∨ w0.heap.size ≤ y) ∧ ∀ w' S', OwnF o' w w' x.ab S' → Has o w0 w' (StP b { x with S := S' } A) := by
  obtain ⟨o1, h1, p1, _, b1⟩ := h.left
  obtain ⟨o2, h2, p2, q2, b2⟩ := h1.right
  obtain ⟨hab, h2⟩ := h2.whenOut
  refine ⟨o2, h2, fun y hy => ?_, fun w' S' hS => b1 _ _ (b2 _ _ (Has.whenIn hab hS))⟩
  rcases p2 y hy with h | h
  · exact p1 y h
  · have := q2 y hy; omega

theorem stp_load (h : Has o w0 w (StP b x A)) (hr : StRep x.S x.C A) (l : Loc) (v : Int) (hl : A.at_ l = some v) :
    Calls Tryd.prog 51 #[.pointer (some ⟨x.ab, 0, none⟩), .int .i64 (x.C.of l)] w fun e w' => e = .returned (.tuple #[.int .u64 v, .int .i64 0]) ∧ Has o w0 w' (StP b { x with S := x.S.step } A.step) := by
  obtain ⟨o', hO, _, back⟩ := stp_arena h
  refine (own_load hO _ v (hr.has l v hl)).mono ?_
  rintro e w' ⟨rfl, h'⟩
  exact ⟨rfl, back _ _ h'⟩

theorem stRows_set (x : StIx) (A : ASt) (l : Loc) (v : Int) (S : Ar) : StRows { x with S := S } (A.set l v) = StRows x A := by
  unfold StRows
  rw [A.nN_set, A.nV_set, A.nT_set]
  have e1 : verF x.C (A.set l v) = verF x.C A := funext fun i => by unfold verF; rw [A.val_set, A.gone_set]
  have e2 : txnF x.C (A.set l v) = txnF x.C A := funext fun i => by unfold txnF; rw [A.goneT_set]
  simp only [e1, e2]

theorem stp_store (h : Has o w0 w (StP b x A)) (hr : StRep x.S x.C A) (l : Loc) (u v : Int) (hl : A.at_ l = some u) :
    Calls Tryd.prog 61 #[.pointer (some ⟨x.ab, 0, none⟩), .int .i64 (x.C.of l), .int .u64 v] w fun e w' => e = .returned (.int .i64 0) ∧ Has o w0 w' (StP b { x with S := x.S.step.put (x.C.of l) v } (A.step.set l v)) := by
  obtain ⟨o', hO, _, back⟩ := stp_arena h
  refine (own_store hO _ u v (hr.has l u hl)).mono ?_
  rintro e w' ⟨rfl, h'⟩
  have h2 := back _ _ h'
  refine ⟨rfl, ?_⟩
  unfold StP at h2 ⊢
  rw [stRows_set, ASt.ab_set]
  exact h2

theorem stp_cas (h : Has o w0 w (StP b x A)) (hr : StRep x.S x.C A) (l : Loc) (u v : Int) (hl : A.at_ l = some u) :
    Calls Tryd.prog 55 #[.pointer (some ⟨x.ab, 0, none⟩), .int .i64 (x.C.of l), .int .u64 u, .int .u64 v] w fun e w' => e = .returned (.tuple #[.bool true, .int .i64 0]) ∧ Has o w0 w' (StP b { x with S := x.S.step.put (x.C.of l) v } (A.step.set l v)) := by
  obtain ⟨o', hO, _, back⟩ := stp_arena h
  refine (own_cas hO _ u v (hr.has l u hl)).mono ?_
  rintro e w' ⟨rfl, h'⟩
  have h2 := back _ _ h'
  refine ⟨rfl, ?_⟩
  unfold StP at h2 ⊢
  rw [stRows_set, ASt.ab_set]
  exact h2

theorem stp_cas_not (h : Has o w0 w (StP b x A)) (hr : StRep x.S x.C A) (l : Loc) (u old v : Int) (hl : A.at_ l = some u) (hne : u ≠ old) :
    Calls Tryd.prog 55 #[.pointer (some ⟨x.ab, 0, none⟩), .int .i64 (x.C.of l), .int .u64 old, .int .u64 v] w fun e w' => e = .returned (.tuple #[.bool false, .int .i64 0]) ∧ Has o w0 w' (StP b { x with S := x.S.step } A.step) := by
  obtain ⟨o', hO, _, back⟩ := stp_arena h
  refine (own_cas_not hO _ u old v (hr.has l u hl) hne).mono ?_
  rintro e w' ⟨rfl, h'⟩
  exact ⟨rfl, back _ _ h'⟩
end Go.Proofs.YtbodobdllchmgaaDoor
namespace Go.Proofs.YtbodobdllchmgaaDoor
open Go Go.RowKit
set_option linter.unusedVariables false

/-- What kind of word it is: 1 a time, 2 never, 3 an owner's, 0 none. -/
def wKind (w : Int) : Int := if w < 1099511627776 then 1 else if w = 1099511627776 then 2 else if 9223372036854775808 < w ∧ w < 9223372036855824384 then 3 else 0
def wTime (w : Int) : Int := if w ≤ 1099511627776 then w else 0
def wOwner (w : Int) : Int := if 9223372036854775808 < w ∧ w < 9223372036855824384 then w - 9223372036854775808 else 0
def wOk (w : Int) : Bool := decide (w ≤ 1099511627776) || (decide (9223372036854775808 < w) && decide (w < 9223372036855824384))

set_option maxHeartbeats 1000000 in
set_option maxRecDepth 100000 in
theorem split_walk (W : World) (w : Int) (h0 : 0 ≤ w) (h1 : w < 18446744073709551616) :
    Calls Tryd.prog 64 #[.int .u64 w] W fun e W' => e = .returned (.tuple #[.int .i64 (wKind w), .int .i64 (wTime w), .int .i64 (wOwner w)]) ∧ W' = W := by
  go_enter Tryd.func64, Tryd.ntmps64
  by_cases c1 : w < 1099511627776
  · have d1 : decide (w < 1099511627776) = true := by simpa using c1
    have e1 : IntKind.i64.wrap w = w := by unfold IntKind.wrap; simp [IntKind.bits, IntKind.signed]; omega
    have k1 : wKind w = 1 := by unfold wKind; rw [if_pos c1]
    have k2 : wTime w = w := by unfold wTime; rw [if_pos (by omega)]
    have k3 : wOwner w = 0 := by unfold wOwner; rw [if_neg (by omega)]
    rw [k1, k2, k3]
    clear k1 k2 k3
    go_wp2_with fail
    go_ret3
    exact ⟨rfl, rfl⟩
  have d1 : decide (w < 1099511627776) = false := by simpa using c1
  by_cases c2 : w = 1099511627776
  · have k1 : wKind w = 2 := by unfold wKind; rw [if_neg c1, if_pos c2]
    have k2 : wTime w = 1099511627776 := by unfold wTime; rw [if_pos (by omega)]; exact c2
    have k3 : wOwner w = 0 := by unfold wOwner; rw [if_neg (by omega)]
    rw [k1, k2, k3]
    clear k1 k2 k3
    subst c2
    go_wp2_with fail
    go_ret3
    exact ⟨rfl, rfl⟩
  have d2 : decide (w = 1099511627776) = false := by simpa using c2
  have k2 : wTime w = 0 := by unfold wTime; rw [if_neg (by omega)]
  by_cases c3 : 9223372036854775808 < w ∧ w < 9223372036855824384
  · have d3 : decide (w > 9223372036854775808) = true := by simp; omega
    have d4 : decide (w < 9223372036855824384) = true := by simp; omega
    have e1 : IntKind.u64.wrap (w - 9223372036854775808) = w - 9223372036854775808 := by unfold IntKind.wrap; simp [IntKind.bits, IntKind.signed]; omega
    have e2 : IntKind.i64.wrap (w - 9223372036854775808) = w - 9223372036854775808 := by unfold IntKind.wrap; simp [IntKind.bits, IntKind.signed]; omega
    have k1 : wKind w = 3 := by unfold wKind; rw [if_neg c1, if_neg c2, if_pos c3]
    have k3 : wOwner w = w - 9223372036854775808 := by unfold wOwner; rw [if_pos c3]
    rw [k1, k2, k3]
    clear k1 k2 k3
    go_wp2_with fail
    go_ret3
    exact ⟨rfl, rfl⟩
  · have k1 : wKind w = 0 := by unfold wKind; rw [if_neg c1, if_neg c2, if_neg c3]
    have k3 : wOwner w = 0 := by unfold wOwner; rw [if_neg c3]
    rw [k1, k2, k3]
    clear k1 k2 k3
    by_cases c4 : 9223372036854775808 < w
    · have d3 : decide (w > 9223372036854775808) = true := by simp; omega
      have d4 : decide (w < 9223372036855824384) = false := by simp; omega
      go_wp2_with fail
      go_ret3
      exact ⟨rfl, rfl⟩
    · have d3 : decide (w > 9223372036854775808) = false := by simp; omega
      go_wp2_with fail
      go_ret3
      exact ⟨rfl, rfl⟩

theorem wKind_ok (w : Int) : decide (wKind w ≠ 0) = wOk w := by
  unfold wKind wOk
  by_cases c1 : w < 1099511627776
  · rw [if_pos c1]; simp; omega
  · rw [if_neg c1]
    by_cases c2 : w = 1099511627776
    · rw [if_pos c2]; simp; omega
    · rw [if_neg c2]
      by_cases c3 : 9223372036854775808 < w ∧ w < 9223372036855824384
      · rw [if_pos c3]; simp; omega
      · rw [if_neg c3]; simp; omega

set_option maxHeartbeats 1000000 in
set_option maxRecDepth 100000 in
theorem parts_walk (W : World) (w : Int) (h0 : 0 ≤ w) (h1 : w < 18446744073709551616) :
    Calls Tryd.prog 57 #[.int .u64 w] W fun e W' => e = .returned (.tuple #[.int .i64 (wTime w), .int .i64 (wOwner w), .bool (wOk w)]) ∧ W' = W := by
  have hs := Lib.hid (split_walk W w h0 h1)
  have hk := Lib.hid (wKind_ok w)
  go_enter Tryd.func57, Tryd.ntmps57
  go_wp2_with fail
  refine hs.out.mono ?_
  rintro e W' ⟨rfl, rfl⟩
  go_wp2_with fail
  go_ret3
  exact ⟨by rw [← hk.out]; simp; rfl, rfl⟩

/-- May a word be a begin? -/
def wBegins (w : Int) : Bool := wOk w && decide (w ≠ 1099511627776)

set_option maxHeartbeats 1000000 in
set_option maxRecDepth 100000 in
theorem begins_walk (W : World) (w : Int) (h0 : 0 ≤ w) (h1 : w < 18446744073709551616) :
    Calls Tryd.prog 52 #[.int .u64 w] W fun e W' => e = .returned (.bool (wBegins w)) ∧ W' = W := by
  have hs := parts_walk W w h0 h1
  unfold wBegins
  generalize wOk w = ok at *
  have hs := Lib.hid hs
  go_enter Tryd.func52, Tryd.ntmps52
  go_wp2_with fail
  refine hs.out.mono ?_
  rintro e W' ⟨rfl, rfl⟩
  cases ok
  · go_wp2_with fail
    go_ret
    exact ⟨rfl, rfl⟩
  · by_cases hw : w = 1099511627776
    · subst hw
      go_wp2_with fail
      go_ret
      exact ⟨rfl, rfl⟩
    · have e1 : decide (w = 1099511627776) = false := by simpa using hw
      have e2 : (w == 1099511627776) = false := by simpa using hw
      go_wp2_with fail
      go_ret
      exact ⟨by simp [hw], rfl⟩
end Go.Proofs.YtbodobdllchmgaaDoor
namespace Go.Proofs.YtbodobdllchmgaaDoor
open Go Go.RowKit
set_option linter.unusedVariables false

variable {o : List Nat} {w0 w : World} {b : Nat} {A : ASt}

set_option maxHeartbeats 2000000 in
set_option maxRecDepth 100000 in
theorem begin_no (h : Has o w0 w (.store b A)) (n : Int) (hn : ∀ i : Nat, n = (i : Int) + 1 → A.ver i = false) :
    Calls Tryd.prog 46 #[.pointer (some ⟨b, 0, none⟩), .int .i64 n] w fun e w' => e = .returned (.tuple #[.int .u64 0, .int .i64 110]) ∧ w' = w := by
  obtain ⟨x, hr, h⟩ := h.stOpen
  have HV := Lib.hid (version_no h n hn)
  have HN := Lib.hid (none_walk w b)
  clear h hr hn
  go_enter Tryd.func46, Tryd.ntmps46
  go_wp2_with fail
  refine HV.out.mono ?_
  rintro e w' ⟨rfl, rfl⟩
  go_wp2_with fail
  refine HN.out.mono ?_
  rintro e w' ⟨rfl, rfl⟩
  go_wp2_with fail
  go_ret2
  exact ⟨rfl, rfl⟩

set_option maxHeartbeats 2000000 in
set_option maxRecDepth 100000 in
theorem begin_at (h : Has o w0 w (.store b A)) (i : Nat) (v : Int) (hl : A.at_ (.begin_ i) = some v) :
    Calls Tryd.prog 46 #[.pointer (some ⟨b, 0, none⟩), .int .i64 ((i : Int) + 1)] w fun e w' => e = .returned (.tuple #[.int .u64 v, .int .i64 0]) ∧ Has o w0 w' (.store b A.step) := by
  obtain ⟨x, hr, h⟩ := h.stOpen
  have hlt := ver_lt (at_begin hl)
  obtain ⟨g, cap, hvv⟩ := StP.verSlice h hlt
  obtain ⟨c0, _, _, _⟩ := StP.fields h
  obtain ⟨_, c1, _, _⟩ := StP.verCells h hlt hvv
  have hw9 := hr.word _ v hl
  have HV := Lib.hid (version_at h i (at_begin hl) hvv)
  have HL := Lib.hid (fun (w' : World) (hw : Has o w0 w' (StP b x A)) => stp_load hw hr (.begin_ i) v hl)
  have HX := Lib.hid h
  have HR := Lib.hid hr
  have HVV := Lib.hid hvv
  clear h hr hl hvv
  go_enter Tryd.func46, Tryd.ntmps46
  go_wp2_with fail
  refine HV.out.mono ?_
  rintro e w' ⟨rfl, rfl⟩
  go_wp2_with fail
  go_region_held3 (fun w' => w'.cell? ⟨b, 0, none⟩ = some (.pointer (some ⟨x.ab, 0, none⟩)) ∧ w'.cell? ⟨g, i * 5 + 1, none⟩ = some (.int .i64 ((x.C.v i).1)))
    (first | exact ⟨c0, c1⟩ | exact ⟨d0, d1⟩)
    (first | (go_at_call 51
              refine (HL.out _ (HX.out.quiet ((Kept.refl _ _).drew))).mono ?_
              rintro e w4 ⟨rfl, hX4⟩
              obtain ⟨d0, _, _, _⟩ := StP.fields hX4
              obtain ⟨_, d1, _, _⟩ := StP.verCells hX4 hlt HVV.out
              have HX4 := Lib.hid hX4
              clear hX4))
  go_wp2_with fail
  go_ret2
  exact ⟨rfl, HX4.out.stShut HR.out.step⟩

set_option maxHeartbeats 2000000 in
set_option maxRecDepth 100000 in
theorem end_no (h : Has o w0 w (.store b A)) (n : Int) (hn : ∀ i : Nat, n = (i : Int) + 1 → A.ver i = false) :
    Calls Tryd.prog 47 #[.pointer (some ⟨b, 0, none⟩), .int .i64 n] w fun e w' => e = .returned (.tuple #[.int .u64 0, .int .i64 110]) ∧ w' = w := by
  obtain ⟨x, hr, h⟩ := h.stOpen
  have HV := Lib.hid (version_no h n hn)
  have HN := Lib.hid (none_walk w b)
  clear h hr hn
  go_enter Tryd.func47, Tryd.ntmps47
  go_wp2_with fail
  refine HV.out.mono ?_
  rintro e w' ⟨rfl, rfl⟩
  go_wp2_with fail
  refine HN.out.mono ?_
  rintro e w' ⟨rfl, rfl⟩
  go_wp2_with fail
  go_ret2
  exact ⟨rfl, rfl⟩

set_option maxHeartbeats 2000000 in
set_option maxRecDepth 100000 in
theorem end_at (h : Has o w0 w (.store b A)) (i : Nat) (v : Int) (hl : A.at_ (.end_ i) = some v) :
    Calls Tryd.prog 47 #[.pointer (some ⟨b, 0, none⟩), .int .i64 ((i : Int) + 1)] w fun e w' => e = .returned (.tuple #[.int .u64 v, .int .i64 0]) ∧ Has o w0 w' (.store b A.step) := by
  obtain ⟨x, hr, h⟩ := h.stOpen
  have hlt := ver_lt (at_end hl)
  obtain ⟨g, cap, hvv⟩ := StP.verSlice h hlt
  obtain ⟨c0, _, _, _⟩ := StP.fields h
  obtain ⟨_, _, c1, _⟩ := StP.verCells h hlt hvv
  have hw9 := hr.word _ v hl
  have HV := Lib.hid (version_at h i (at_end hl) hvv)
  have HL := Lib.hid (fun (w' : World) (hw : Has o w0 w' (StP b x A)) => stp_load hw hr (.end_ i) v hl)
  have HX := Lib.hid h
  have HR := Lib.hid hr
  have HVV := Lib.hid hvv
  clear h hr hl hvv
  go_enter Tryd.func47, Tryd.ntmps47
  go_wp2_with fail
  refine HV.out.mono ?_
  rintro e w' ⟨rfl, rfl⟩
  go_wp2_with fail
  go_region_held3 (fun w' => w'.cell? ⟨b, 0, none⟩ = some (.pointer (some ⟨x.ab, 0, none⟩)) ∧ w'.cell? ⟨g, i * 5 + 2, none⟩ = some (.int .i64 ((x.C.v i).2.1)))
    (first | exact ⟨c0, c1⟩ | exact ⟨d0, d1⟩)
    (first | (go_at_call 51
              refine (HL.out _ (HX.out.quiet ((Kept.refl _ _).drew))).mono ?_
              rintro e w4 ⟨rfl, hX4⟩
              obtain ⟨d0, _, _, _⟩ := StP.fields hX4
              obtain ⟨_, _, d1, _⟩ := StP.verCells hX4 hlt HVV.out
              have HX4 := Lib.hid hX4
              clear hX4))
  go_wp2_with fail
  go_ret2
  exact ⟨rfl, HX4.out.stShut HR.out.step⟩

set_option maxHeartbeats 2000000 in
set_option maxRecDepth 100000 in
theorem next_no (h : Has o w0 w (.store b A)) (n : Int) (hn : ∀ i : Nat, n = (i : Int) + 1 → A.ver i = false) :
    Calls Tryd.prog 77 #[.pointer (some ⟨b, 0, none⟩), .int .i64 n] w fun e w' => e = .returned (.tuple #[.int .i64 0, .int .i64 110]) ∧ w' = w := by
  obtain ⟨x, hr, h⟩ := h.stOpen
  have HV := Lib.hid (version_no h n hn)
  have HN := Lib.hid (none_walk w b)
  clear h hr hn
  go_enter Tryd.func77, Tryd.ntmps77
  go_wp2_with fail
  refine HV.out.mono ?_
  rintro e w' ⟨rfl, rfl⟩
  go_wp2_with fail
  refine HN.out.mono ?_
  rintro e w' ⟨rfl, rfl⟩
  go_wp2_with fail
  go_ret2
  exact ⟨rfl, rfl⟩

set_option maxHeartbeats 2000000 in
set_option maxRecDepth 100000 in
theorem next_at (h : Has o w0 w (.store b A)) (i : Nat) (v : Int) (hl : A.at_ (.next i) = some v) (hi9 : v < 9223372036854775808) :
    Calls Tryd.prog 77 #[.pointer (some ⟨b, 0, none⟩), .int .i64 ((i : Int) + 1)] w fun e w' => e = .returned (.tuple #[.int .i64 v, .int .i64 0]) ∧ Has o w0 w' (.store b A.step) := by
  obtain ⟨x, hr, h⟩ := h.stOpen
  have hlt := ver_lt (at_next hl)
  obtain ⟨g, cap, hvv⟩ := StP.verSlice h hlt
  obtain ⟨c0, _, _, _⟩ := StP.fields h
  obtain ⟨_, _, _, c1⟩ := StP.verCells h hlt hvv
  have hw9 := hr.word _ v hl
  have HV := Lib.hid (version_at h i (at_next hl) hvv)
  have HL := Lib.hid (fun (w' : World) (hw : Has o w0 w' (StP b x A)) => stp_load hw hr (.next i) v hl)
  have HX := Lib.hid h
  have HR := Lib.hid hr
  have HVV := Lib.hid hvv
  have e9 : IntKind.i64.wrap v = v := by unfold IntKind.wrap; simp [IntKind.bits, IntKind.signed]; omega
  clear h hr hl hvv
  go_enter Tryd.func77, Tryd.ntmps77
  go_wp2_with fail
  refine HV.out.mono ?_
  rintro e w' ⟨rfl, rfl⟩
  go_wp2_with fail
  go_region_held3 (fun w' => w'.cell? ⟨b, 0, none⟩ = some (.pointer (some ⟨x.ab, 0, none⟩)) ∧ w'.cell? ⟨g, i * 5 + 3, none⟩ = some (.int .i64 ((x.C.v i).2.2)))
    (first | exact ⟨c0, c1⟩ | exact ⟨d0, d1⟩)
    (first | (go_at_call 51
              refine (HL.out _ (HX.out.quiet ((Kept.refl _ _).drew))).mono ?_
              rintro e w4 ⟨rfl, hX4⟩
              obtain ⟨d0, _, _, _⟩ := StP.fields hX4
              obtain ⟨_, _, _, d1⟩ := StP.verCells hX4 hlt HVV.out
              have HX4 := Lib.hid hX4
              clear hX4))
  go_wp2_with fail
  go_ret2
  exact ⟨rfl, HX4.out.stShut HR.out.step⟩

set_option maxHeartbeats 2000000 in
set_option maxRecDepth 100000 in
theorem head_no (h : Has o w0 w (.store b A)) (n : Int) (hn : ∀ i : Nat, n = (i : Int) + 1 → A.nN ≤ i) :
    Calls Tryd.prog 25 #[.pointer (some ⟨b, 0, none⟩), .int .i64 n] w fun e w' => e = .returned (.tuple #[.int .i64 0, .int .i64 110]) ∧ w' = w := by
  obtain ⟨x, hr, h⟩ := h.stOpen
  have HV := Lib.hid (node_no h n hn)
  have HN := Lib.hid (none_walk w b)
  clear h hr hn
  go_enter Tryd.func25, Tryd.ntmps25
  go_wp2_with fail
  refine HV.out.mono ?_
  rintro e w' ⟨rfl, rfl⟩
  go_wp2_with fail
  refine HN.out.mono ?_
  rintro e w' ⟨rfl, rfl⟩
  go_wp2_with fail
  go_ret2
  exact ⟨rfl, rfl⟩

set_option maxHeartbeats 2000000 in
set_option maxRecDepth 100000 in
theorem head_at (h : Has o w0 w (.store b A)) (i : Nat) (v : Int) (hl : A.at_ (.head i) = some v) (hi9 : v < 9223372036854775808) :
    Calls Tryd.prog 25 #[.pointer (some ⟨b, 0, none⟩), .int .i64 ((i : Int) + 1)] w fun e w' => e = .returned (.tuple #[.int .i64 v, .int .i64 0]) ∧ Has o w0 w' (.store b A.step) := by
  obtain ⟨x, hr, h⟩ := h.stOpen
  have hlt := at_head hl
  obtain ⟨g, cap, hvv⟩ := StP.nodeSlice h hlt
  obtain ⟨c0, _, _, _⟩ := StP.fields h
  obtain ⟨c1, _⟩ := StP.nodeCells h hlt hvv
  have hw9 := hr.word _ v hl
  have HV := Lib.hid (node_at h i (at_head hl) hvv)
  have HL := Lib.hid (fun (w' : World) (hw : Has o w0 w' (StP b x A)) => stp_load hw hr (.head i) v hl)
  have HX := Lib.hid h
  have HR := Lib.hid hr
  have HVV := Lib.hid hvv
  have e9 : IntKind.i64.wrap v = v := by unfold IntKind.wrap; simp [IntKind.bits, IntKind.signed]; omega
  clear h hr hl hvv
  go_enter Tryd.func25, Tryd.ntmps25
  go_wp2_with fail
  refine HV.out.mono ?_
  rintro e w' ⟨rfl, rfl⟩
  go_wp2_with fail
  go_region_held3 (fun w' => w'.cell? ⟨b, 0, none⟩ = some (.pointer (some ⟨x.ab, 0, none⟩)) ∧ w'.cell? ⟨g, i * 2, none⟩ = some (.int .i64 ((x.C.n i).1)))
    (first | exact ⟨c0, c1⟩ | exact ⟨d0, d1⟩)
    (first | (go_at_call 51
              refine (HL.out _ (HX.out.quiet ((Kept.refl _ _).drew))).mono ?_
              rintro e w4 ⟨rfl, hX4⟩
              obtain ⟨d0, _, _, _⟩ := StP.fields hX4
              obtain ⟨d1, _⟩ := StP.nodeCells hX4 hlt HVV.out
              have HX4 := Lib.hid hX4
              clear hX4))
  go_wp2_with fail
  go_ret2
  exact ⟨rfl, HX4.out.stShut HR.out.step⟩

end Go.Proofs.YtbodobdllchmgaaDoor
namespace Go.Proofs.YtbodobdllchmgaaDoor
open Go Go.RowKit
set_option linter.unusedVariables false

variable {o : List Nat} {w0 w : World} {b : Nat} {x : StIx} {A : ASt}

/-- Numbers of cells that a slice owns. -/
noncomputable def Part.nums (v : Value) (cs : List Nat) : Part := .row 3 1 v cs.length (cs.map fun c : Nat => Value.int .i64 (c : Int))

theorem nums_open {v : Value} {cs : List Nat} (h : Has o w0 w (.nums v cs)) : ∃ p cap, v = .slice p cs.length cap ∧ cs.length ≤ maxLen ∧ w.ownsRow 0 3 1 v cs.length (cs.map fun c : Nat => Value.int .i64 (c : Int)) ∧
    (0 < cs.length → ∃ g, p = some ⟨g, 0, none⟩ ∧ ∀ i (hi : i < cs.length), w.cell? ⟨g, i, none⟩ = some (.int .i64 ((cs[i] : Nat) : Int))) := by
  obtain ⟨fp, ⟨hr, _⟩, _⟩ := h
  rcases rowN_open hr with ⟨e, h0⟩ | ⟨g, c, e, h1, h2, _, _, hc⟩
  · exact ⟨none, 0, by rw [h0]; exact e, by rw [h0]; exact Nat.zero_le _, hr, fun h => by omega⟩
  · exact ⟨_, c, e, Nat.le_trans h1 h2, hr, fun _ => ⟨g, rfl, fun i hi => hc i _ (by rw [List.getElem?_map, List.getElem?_eq_getElem hi]; rfl)⟩⟩

theorem Has.nilNums (w : World) : Has [] w w (.nums (.slice none 0 0) []) := ⟨[], ⟨World.ownsRow_nil _ _ _ _, by simp [rowsOf, Value.ownBlock]⟩, by simp, Kept.refl _ _⟩

/-- What is left when some cells are given back. -/
def dropAll (S : Ar) (cs : List Nat) : Ar := cs.foldl Ar.drop S

theorem dropAll_size (S : Ar) (cs : List Nat) : (dropAll S cs).size = S.size := by
  unfold dropAll
  induction cs generalizing S with
  | nil => rfl
  | cons c cs ih => rw [List.foldl_cons, ih]; rfl
theorem dropAll_steps (S : Ar) (cs : List Nat) : (dropAll S cs).steps = S.steps := by
  unfold dropAll
  induction cs generalizing S with
  | nil => rfl
  | cons c cs ih => rw [List.foldl_cons, ih]; rfl
theorem dropAll_get (S : Ar) (cs : List Nat) (d : Nat) : (dropAll S cs).get d = if d ∈ cs then none else S.get d := by
  unfold dropAll
  induction cs generalizing S with
  | nil => simp
  | cons c cs ih =>
    rw [List.foldl_cons, ih]
    by_cases h : d ∈ cs
    · rw [if_pos h, if_pos (List.mem_cons_of_mem _ h)]
    · rw [if_neg h]
      show (if d = c then none else S.get d) = _
      by_cases e : d = c
      · rw [if_pos e, if_pos (by simp [e])]
      · rw [if_neg e, if_neg (by simp [e, h])]
theorem dropAll_snoc (S : Ar) (cs : List Nat) (c : Nat) : dropAll S (cs ++ [c]) = (dropAll S cs).drop c := by
  unfold dropAll
  rw [List.foldl_append]; rfl

theorem stp_free (h : Has o w0 w (StP b x A)) (c : Nat) (v : Int) (hg : x.S.get c = some v) :
    Calls Tryd.prog 84 #[.pointer (some ⟨x.ab, 0, none⟩), .int .i64 c] w fun e w' => e = .returned (.int .i64 0) ∧ Has o w0 w' (StP b { x with S := x.S.drop c } A) := by
  obtain ⟨o', hO, _, back⟩ := stp_arena h
  refine (own_free hO c v hg).mono ?_
  rintro e w' ⟨rfl, h'⟩
  exact ⟨rfl, back _ _ h'⟩

theorem stp_free2 {B : Part} (h : Has o w0 w ((StP b x A).sep B)) (c : Nat) (v : Int) (hg : x.S.get c = some v) :
    Calls Tryd.prog 84 #[.pointer (some ⟨x.ab, 0, none⟩), .int .i64 c] w fun e w' => e = .returned (.int .i64 0) ∧ Has o w0 w' ((StP b { x with S := x.S.drop c } A).sep B) := by
  obtain ⟨o1, h1, _, _, b1⟩ := h.left
  refine (stp_free h1 c v hg).mono ?_
  rintro e w' ⟨rfl, h'⟩
  exact ⟨rfl, b1 _ _ h'⟩

set_option maxHeartbeats 2000000 in
set_option maxRecDepth 100000 in
theorem give_walk {lv : Value} {cs : List Nat} (h : Has o w0 w ((StP b x A).sep (.nums lv cs))) (hd : cs.Nodup) (hs : ∀ c ∈ cs, (x.S.get c).isSome = true) :
    Calls Tryd.prog 70 #[.pointer (some ⟨b, 0, none⟩), lv] w fun e w' => e = .returned (.tuple #[]) ∧ Has o w0 w' ((StP b { x with S := dropAll x.S cs } A).sep (.nums lv cs)) := by
  obtain ⟨o1, h1, _⟩ := h.right
  obtain ⟨p, cap, rfl, hlen, _, _⟩ := nums_open h1
  have h9 : cs.length ≤ 9223372036854775807 := Nat.le_trans hlen (by decide)
  have HX := Lib.hid h
  have HD := Lib.hid hd
  have HS := Lib.hid hs
  clear h h1 hd hs hlen
  go_enter Tryd.func70, Tryd.ntmps70
  go_wp2_with fail
  go_loopg [8] cs.length (fun k iv wr => ∃ i : Nat, i ≤ cs.length ∧ k = cs.length - i ∧ iv = .int .i64 i ∧ Has o w0 wr ((StP b { x with S := dropAll x.S (cs.take i) } A).sep (.nums (.slice p cs.length cap) cs)))
  case atStart => exact ⟨0, Nat.zero_le _, rfl, rfl, HX.out⟩
  case round =>
    clear HX
    obtain ⟨i, hi, hk, rfl, hX⟩ := hrel
    have HKK := Lib.hid hk
    by_cases hlt : i < cs.length
    · have hdd : decide ((i : Int) < (cs.length : Int)) = true := by simp; omega
      have hdd' : decide (i < cs.length) = true := by simp; omega
      obtain ⟨o1, h1, _⟩ := hX.right
      obtain ⟨_, _, he, _, _, hc⟩ := nums_open h1
      obtain ⟨g, hp, hc⟩ := hc (by omega)
      have c0 := hc i hlt
      obtain ⟨o2, h2, _⟩ := hX.left
      obtain ⟨c1, _, _, _⟩ := StP.fields h2
      have hnot : cs[i] ∉ cs.take i := fun hm => by
        obtain ⟨j, hj, e⟩ := List.mem_iff_getElem.1 hm
        rw [List.length_take] at hj
        rw [List.getElem_take] at e
        exact (List.pairwise_iff_getElem.1 HD.out j i (by omega) hlt (by omega)) e
      obtain ⟨v, hv⟩ := Option.isSome_iff_exists.1 (HS.out cs[i] (List.getElem_mem hlt))
      have HF := Lib.hid (stp_free2 hX cs[i] v (by show (dropAll x.S (cs.take i)).get _ = _; rw [dropAll_get, if_neg hnot, hv]))
      have hsn : cs.take (i + 1) = cs.take i ++ [cs[i]] := by rw [List.take_add_one, List.getElem?_eq_getElem hlt]; rfl
      have HSN := Lib.hid hsn
      have hpg : p = some ⟨g, 0, none⟩ := by simp only [Value.slice.injEq] at he; rw [he.1, hp]
      clear hk hX h1 h2 hc he hp hnot hv hsn
      subst hpg
      generalize cs[i] = ci at *
      go_wp2_with fail
      refine HF.out.mono ?_
      rintro e w4 ⟨rfl, hX4⟩
      have HX4 := Lib.hid hX4
      clear hX4
      go_wp2_with fail
      go_roundg (cs.length - (i + 1))
      case measure => rw [HKK.out]; omega
      case rel => exact ⟨i + 1, by omega, rfl, by go_num, by rw [HSN.out, dropAll_snoc]; exact HX4.out⟩
    · have hdd : decide ((i : Int) < (cs.length : Int)) = false := by simp; omega
      have hdd' : decide (i < cs.length) = false := by simp; omega
      obtain rfl : i = cs.length := by omega
      rw [List.take_length] at hX
      have HX := Lib.hid hX
      clear hk hX
      go_wp2_with fail
      go_end0
      exact ⟨rfl, HX.out⟩

/-- What is left when some cells are taken. -/
def putAll (S : Ar) (cs : List Nat) : Ar := cs.foldl (fun S c => S.put c 0) S

theorem putAll_size (S : Ar) (cs : List Nat) : (putAll S cs).size = S.size := by
  unfold putAll
  induction cs generalizing S with
  | nil => rfl
  | cons c cs ih => rw [List.foldl_cons, ih]; rfl
theorem putAll_steps (S : Ar) (cs : List Nat) : (putAll S cs).steps = S.steps := by
  unfold putAll
  induction cs generalizing S with
  | nil => rfl
  | cons c cs ih => rw [List.foldl_cons, ih]; rfl
theorem putAll_snoc (S : Ar) (cs : List Nat) (c : Nat) : putAll S (cs ++ [c]) = (putAll S cs).put c 0 := by
  unfold putAll
  rw [List.foldl_append]; rfl
theorem putAll_get (S : Ar) (cs : List Nat) (d : Nat) : (putAll S cs).get d = if d ∈ cs then some 0 else S.get d := by
  unfold putAll
  induction cs generalizing S with
  | nil => simp
  | cons c cs ih =>
    rw [List.foldl_cons, ih]
    by_cases h : d ∈ cs
    · rw [if_pos h, if_pos (List.mem_cons_of_mem _ h)]
    · rw [if_neg h]
      show (if d = c then some 0 else S.get d) = _
      by_cases e : d = c
      · rw [if_pos e, if_pos (by simp [e])]
      · rw [if_neg e, if_neg (by simp [e, h])]

theorem least_free (get : Nat → Option Int) (n : Nat) (h : cnt get n < n) : ∃ c, c < n ∧ get c = none ∧ ∀ d, d < c → (get d).isSome = true := by
  induction n with
  | zero => omega
  | succ n ih =>
    unfold cnt at h
    by_cases hc : cnt get n < n
    · obtain ⟨c, h1, h2, h3⟩ := ih hc
      exact ⟨c, by omega, h2, h3⟩
    · have hall : ∀ d, d < n → (get d).isSome = true := by
        have gen : ∀ m, m ≤ cnt get m → ∀ d, d < m → (get d).isSome = true := by
          intro m
          induction m with
          | zero => intro _ d hd; omega
          | succ m ihm =>
            intro hm d hd
            unfold cnt at hm
            have hle : cnt get m ≤ m := by
              clear ihm hm hd
              induction m with
              | zero => exact Nat.le_refl _
              | succ m ih => unfold cnt; split <;> omega
            cases e : (get m).isSome with
            | false => rw [e] at hm; simp at hm; omega
            | true =>
              rw [e] at hm
              by_cases hdm : d = m
              · rw [hdm]; exact e
              · exact ihm (by simp at hm; omega) d (by omega)
        exact gen n (by omega)
      cases e : get n with
      | none => exact ⟨n, by omega, e, hall⟩
      | some v => rw [e] at h; simp at h; omega

theorem cnt_all {get : Nat → Option Int} {n : Nat} (h : n ≤ cnt get n) : ∀ d, d < n → (get d).isSome = true := by
  intro d hd
  cases e : (get d).isSome with
  | true => rfl
  | false =>
    exfalso
    have gen : ∀ m, d < m → cnt get m < m := by
      intro m
      induction m with
      | zero => intro h; omega
      | succ m ih =>
        intro hm
        unfold cnt
        have := cnt_le get m
        by_cases hdm : d = m
        · subst hdm; rw [e]; simp; omega
        · have := ih (by omega); split <;> omega
    have := gen n hd
    omega

theorem cnt_put {get : Nat → Option Int} {c : Nat} (v : Int) (n : Nat) (hc : c < n) (h : get c = none) : cnt (fun d => if d = c then some v else get d) n = cnt get n + 1 := by
  have same : ∀ m, m ≤ c → cnt (fun d => if d = c then some v else get d) m = cnt get m := by
    intro m
    induction m with
    | zero => intro _; rfl
    | succ m ih => intro hm; unfold cnt; rw [ih (by omega)]; simp only [if_neg (show ¬ m = c by omega)]
  induction n with
  | zero => omega
  | succ n ih =>
    unfold cnt
    by_cases e : c = n
    · subst e
      rw [same c (Nat.le_refl _), if_pos rfl, h]; simp
    · rw [ih (by omega)]; simp only [if_neg (show ¬ n = c from fun h => e h.symm)]; omega

theorem tab_out (hT : TabAt w0) (ho : 0 ∉ o) {o' : List Nat} (h : ∀ y ∈ o', y ∈ o ∨ w0.heap.size ≤ y) : 0 ∉ o' := fun m => by
  rcases h _ m with h | h
  · exact ho h
  · have := hT.pos; omega

theorem stp_alloc2 {B : Part} (h : Has o w0 w ((StP b x A).sep B)) (hT : TabAt w0) (ho : 0 ∉ o) (c : Nat) (hc : c < x.S.size) (hg : x.S.get c = none) (hleast : ∀ d, d < c → (x.S.get d).isSome = true) :
    Calls Tryd.prog 69 #[.pointer (some ⟨x.ab, 0, none⟩)] w fun e w' => e = .returned (.tuple #[.int .i64 c, .int .i64 0]) ∧ Has o w0 w' ((StP b { x with S := x.S.put c 0 } A).sep B) := by
  have hTw : TabAt w := hT.kept h.keeps ho
  obtain ⟨o1, h1, p1, _, b1⟩ := h.left
  obtain ⟨o2, hO, p2, back⟩ := stp_arena h1
  have hto := tab_out hT ho p1
  have hto2 := tab_out hTw hto p2
  refine (own_alloc hO hTw c hc hg hleast hto2).mono ?_
  rintro e w' ⟨rfl, h'⟩
  exact ⟨rfl, b1 _ _ (back _ _ h')⟩

theorem stp_alloc2_full {B : Part} (h : Has o w0 w ((StP b x A).sep B)) (hfull : ∀ c, c < x.S.size → (x.S.get c).isSome = true) :
    Calls Tryd.prog 69 #[.pointer (some ⟨x.ab, 0, none⟩)] w fun e w' => e = .returned (.tuple #[.int .i64 0, .int .i64 31]) ∧ Has o w0 w' ((StP b x A).sep B) := by
  obtain ⟨o1, h1, p1, _, b1⟩ := h.left
  obtain ⟨o2, hO, p2, back⟩ := stp_arena h1
  refine (own_alloc_full hO hfull).mono ?_
  rintro e w' ⟨rfl, h'⟩
  exact ⟨rfl, b1 _ _ (back _ _ h')⟩

theorem stp_store2 {B : Part} (h : Has o w0 w ((StP b x A).sep B)) (c : Nat) (u v : Int) (hg : x.S.get c = some u) :
    Calls Tryd.prog 61 #[.pointer (some ⟨x.ab, 0, none⟩), .int .i64 c, .int .u64 v] w fun e w' => e = .returned (.int .i64 0) ∧ Has o w0 w' ((StP b { x with S := x.S.step.put c v } A).sep B) := by
  obtain ⟨o1, h1, p1, _, b1⟩ := h.left
  obtain ⟨o2, hO, p2, back⟩ := stp_arena h1
  refine (own_store hO c u v hg).mono ?_
  rintro e w' ⟨rfl, h'⟩
  exact ⟨rfl, b1 _ _ (back _ _ h')⟩

/-- Cells that were free and are taken now. -/
structure Took (S : Ar) (cs : List Nat) : Prop where
  nodup : cs.Nodup
  free : ∀ c ∈ cs, S.get c = none ∧ c < S.size
  count : cnt (putAll S cs).get S.size = cnt S.get S.size + cs.length

theorem Took.nil (S : Ar) : Took S [] := ⟨List.nodup_nil, fun c hc => by simp at hc, rfl⟩
theorem Took.snoc {S : Ar} {cs : List Nat} (h : Took S cs) {c : Nat} (hc : c < S.size) (hg : (putAll S cs).get c = none) : Took S (cs ++ [c]) := by
  rw [putAll_get] at hg
  by_cases hm : c ∈ cs
  · rw [if_pos hm] at hg; cases hg
  · rw [if_neg hm] at hg
    refine ⟨?_, fun d hd => ?_, ?_⟩
    · rw [List.nodup_append]
      exact ⟨h.nodup, by simp, fun a ha d hd e => hm (by rw [List.mem_singleton] at hd; rw [← hd, ← e]; exact ha)⟩
    · rcases List.mem_append.1 hd with hd | hd
      · exact h.free d hd
      · rw [List.mem_singleton.1 hd]; exact ⟨hg, hc⟩
    · rw [putAll_snoc, List.length_append]
      have := cnt_put (get := (putAll S cs).get) 0 S.size hc (by rw [putAll_get, if_neg hm]; exact hg)
      show cnt (fun d => if d = c then some 0 else (putAll S cs).get d) S.size = _
      rw [this, h.count]; rfl

theorem nums_more {w5 : World} {v v' : Value} {cs : List Nat} {B C : Part} {c : Nat} (ob : Obj) (h : Has o w0 w (B.sep (C.sep (.nums v cs)))) (happ : Appended (w.alloc ob) w5 3 1 v v' (cs.length + 1) ((cs.map fun c : Nat => Value.int .i64 (c : Int)) ++ [.int .i64 c])) :
    Has o w0 w5 (B.sep (C.sep (.nums v' (cs ++ [c])))) := by
  obtain ⟨o1, h1, _, _, b1⟩ := h.right
  obtain ⟨o2, h2, _, _, b2⟩ := h1.right
  have h3 := Has.rowAppend ob h2 happ
  refine b1 _ _ (b2 _ _ ?_)
  unfold Part.nums
  rw [List.length_append, List.map_append]
  exact h3

theorem info_num : (Tryd.prog.info? 3).map (fun i => (i.zero, i.size, i.bytes)) = some (some (.int .i64 0), 1, 8) := by kernel_rfl

/-- Words that are laid at first. -/
noncomputable def Part.words (hb m : Nat) (vs : Nat → Int) : Part := .blk hb m 56 fun i => .int .u64 (vs i)

theorem words_cell {C : Part} {hb m : Nat} {vs : Nat → Int} {P : Part} (h : Has o w0 w (P.sep ((Part.words hb m vs).sep C))) {i : Nat} (hi : i < m) : w.cell? ⟨hb, i, none⟩ = some (.int .u64 (vs i)) := by
  obtain ⟨o1, h1, _⟩ := h.right
  obtain ⟨o2, h2, _⟩ := h1.left
  exact (h2.blkAt hi).1

/-- What the cells have behind the laying. -/
structure Laid (S S' : Ar) (cs : List Nat) (f : Nat → Int) : Prop where
  size : S'.size = S.size
  has : ∀ i (hi : i < cs.length), S'.get cs[i] = some (f i)
  rest : ∀ d, d ∉ cs → S'.get d = S.get d

set_option maxHeartbeats 4000000 in
set_option maxRecDepth 100000 in
theorem take_ok {hb m : Nat} {vs : Nat → Int} (h : Has o w0 w ((StP b x A).sep (.words hb m vs))) (hT : TabAt w0) (ho : 0 ∉ o) (hm : m ≤ 100) (hfree : cnt x.S.get x.S.size + m ≤ x.S.size) :
    Calls Tryd.prog 54 #[.pointer (some ⟨b, 0, none⟩), .slice (some ⟨hb, 0, none⟩) m m] w fun e w' => ∃ uv cs S', e = .returned (.tuple #[uv, .int .i64 0]) ∧ cs.length = m ∧ Took x.S cs ∧ Laid x.S S' cs vs ∧ Has o w0 w' ((StP b { x with S := S' } A).sep ((Part.words hb m vs).sep (.nums uv cs))) := by
  have HT := Lib.hid hT
  have HO := Lib.hid ho
  have HX := Lib.hid ((h.beside (Has.nilNums _)).assoc)
  have HF := Lib.hid hfree
  obtain ⟨i0, hi0, hz0, hz1, hz2⟩ := info_parts info_num
  clear h hT ho hfree
  go_enter Tryd.func54, Tryd.ntmps54
  go_wp2_with fail
  go_loopg [6, 13] m (fun k uv iv wr => ∃ (i : Nat) (cs : List Nat), i ≤ m ∧ k = m - i ∧ iv = .int .i64 i ∧ cs.length = i ∧ Took x.S cs ∧ Has o w0 wr ((StP b { x with S := putAll x.S cs } A).sep ((Part.words hb m vs).sep (.nums uv cs))))
  case atStart => exact ⟨0, [], Nat.zero_le _, rfl, rfl, rfl, Took.nil _, HX.out⟩
  case round =>
    clear HX
    obtain ⟨i, cs, hi, hk, rfl, hcl, htk, hX⟩ := hrel
    have HKK := Lib.hid hk
    have HCL := Lib.hid hcl
    have HTK := Lib.hid htk
    by_cases hlt : i < m
    · have hdd : decide ((i : Int) < (m : Int)) = true := by simp; omega
      have hdd' : decide (i < m) = true := by simp; omega
      obtain ⟨o2, h2, _⟩ := hX.left
      obtain ⟨c1, _, _, _⟩ := StP.fields h2
      obtain ⟨c, hc1, hc2, hc3⟩ := least_free (putAll x.S cs).get x.S.size (by have := HF.out; have := htk.count; omega)
      have HAL := Lib.hid (stp_alloc2 hX HT.out HO.out c (by rw [putAll_size]; exact hc1) hc2 hc3)
      have HTK2 := Lib.hid (htk.snoc hc1 hc2)
      clear hk hX h2 htk hc1 hc2 hc3 hcl
      go_wp2_with fail
      refine HAL.out.mono ?_
      rintro e w4 ⟨rfl, hX4⟩
      obtain ⟨o5, h5, _⟩ := hX4.right
      obtain ⟨o6, h6, _⟩ := h5.right
      obtain ⟨np, nc, hnv, hnl, hrow, _⟩ := nums_open h6
      have HROW := Lib.hid hrow
      have HX4 := Lib.hid hX4
      have hl9 : cs.length ≤ 100 := by rw [HCL.out]; omega
      clear hX4 h5 h6 hnv hrow hnl
      go_wp2_with (at_builtin; refine wpList_append_new rfl (.tmp 29) (.tmp 31) 22 rfl 3 i0 (.int .i64 0) 1 8 Tryd.underlying22 hi0 hz0 hz1 hz2 rfl (by decide) _ _ _ rfl (HROW.out.alloc _) ⟨_, 0, none⟩ 1 1 [.int .i64 c] rfl rfl (cell_one _ _ _ _ (by simp)) (by simp [Value.oneCell']) (by simp only [maxLen]; omega) (by omega) ?_)
      intro v' w5 happ
      have HX5 := Lib.hid (nums_more _ HX4.out happ)
      clear happ HROW HX4
      go_wp2_with fail
      go_roundg (m - (i + 1))
      case measure => rw [HKK.out]; omega
      case rel => exact ⟨i + 1, cs ++ [c], by omega, rfl, by go_num, by rw [List.length_append, HCL.out]; rfl, HTK2.out, by rw [putAll_snoc]; exact HX5.out⟩
    · have hdd : decide ((i : Int) < (m : Int)) = false := by simp; omega
      have hdd' : decide (i < m) = false := by simp; omega
      obtain rfl : i = m := by omega
      have HX := Lib.hid hX
      clear hk hX htk hcl
      obtain ⟨o7, h7, _⟩ := HX.out.right
      obtain ⟨o8, h8, _⟩ := h7.right
      obtain ⟨np, nc, rfl, _, _, _⟩ := nums_open h8
      rw [HCL.out] at HX
      rw [HCL.out]
      clear h7 h8
      go_wp2_with fail
      have hstart : Laid x.S (putAll x.S cs) cs (fun d => if d < 0 then vs d else 0) := ⟨putAll_size _ _, fun d hd => by rw [putAll_get, if_pos (List.getElem_mem hd)]; simp, fun d hd => by rw [putAll_get, if_neg hd]⟩
      have HSTART := Lib.hid hstart
      clear hstart
      go_loopg [36] i (fun k iv wx => ∃ (j : Nat) (S' : Ar), j ≤ i ∧ k = i - j ∧ iv = .int .i64 j ∧ Laid x.S S' cs (fun d => if d < j then vs d else 0) ∧ Has o w0 wx ((StP b { x with S := S' } A).sep ((Part.words hb i vs).sep (.nums (.slice np i nc) cs))))
      case atStart => exact ⟨0, _, Nat.zero_le _, rfl, rfl, HSTART.out, HX.out⟩
      case round =>
        clear HX HSTART
        obtain ⟨j, S', hj, hk2, rfl, hlaid, hX⟩ := hrel
        have HKJ := Lib.hid hk2
        have HLD := Lib.hid hlaid
        by_cases hjm : j < i
        · have e1 : decide ((j : Int) < (i : Int)) = true := by simp; omega
          have e1' : decide (j < i) = true := by simp; omega
          have hjc : j < cs.length := by rw [HCL.out]; exact hjm
          have cw := words_cell hX hjm
          obtain ⟨o2, h2, _⟩ := hX.left
          obtain ⟨c1, _, _, _⟩ := StP.fields h2
          obtain ⟨o7, h7, _⟩ := hX.right
          obtain ⟨o8, h8, _⟩ := h7.right
          obtain ⟨np', nc', he, _, _, hc⟩ := nums_open h8
          obtain ⟨g, hnp, hc⟩ := hc (by omega)
          have c2 := hc j hjc
          have hpg : np = some ⟨g, 0, none⟩ := by simp only [Value.slice.injEq] at he; rw [he.1, hnp]
          have hget : S'.get cs[j] = some 0 := by rw [hlaid.has j hjc, if_neg (by omega)]
          have hnd : ∀ d (hd : d < cs.length), d ≠ j → cs[d] ≠ cs[j] := fun d hd hne e => by
            rcases Nat.lt_or_gt_of_ne hne with h | h
            · exact (List.pairwise_iff_getElem.1 HTK.out.nodup d j hd hjc h) e
            · exact (List.pairwise_iff_getElem.1 HTK.out.nodup j d hjc hd h) e.symm
          have hnext : Laid x.S (S'.step.put cs[j] (vs j)) cs (fun d => if d < j + 1 then vs d else 0) := by
            refine ⟨hlaid.size, fun d hd => ?_, fun d hd => ?_⟩
            · show (if cs[d] = cs[j] then some (vs j) else S'.get cs[d]) = _
              by_cases e : d = j
              · subst e; rw [if_pos rfl, if_pos (by omega)]
              · rw [if_neg (hnd d hd e), hlaid.has d hd]
                by_cases e2 : d < j
                · rw [if_pos e2, if_pos (by omega)]
                · rw [if_neg e2, if_neg (by omega)]
            · show (if d = cs[j] then some (vs j) else S'.get d) = _
              rw [if_neg fun e => hd (by rw [e]; exact List.getElem_mem hjc), hlaid.rest d hd]
          have hskip : vs j = 0 → Laid x.S S' cs (fun d => if d < j + 1 then vs d else 0) := fun hz => by
            refine ⟨hlaid.size, fun d hd => ?_, hlaid.rest⟩
            rw [hlaid.has d hd]
            by_cases e : d = j
            · subst e; rw [if_neg (by omega), if_pos (by omega), hz]
            · by_cases e2 : d < j
              · rw [if_pos e2, if_pos (by omega)]
              · rw [if_neg e2, if_neg (by omega)]
          have HNX := Lib.hid hnext
          have HSK := Lib.hid hskip
          have HX := Lib.hid hX
          have HCC := Lib.hid hc
          subst hpg
          have HST := Lib.hid (fun (w' : World) (hw : Has o w0 w' ((StP b { x with S := S' } A).sep ((Part.words hb i vs).sep (.nums (.slice (some ⟨g, 0, none⟩) i nc) cs)))) => stp_store2 hw cs[j] 0 (vs j) hget)
          have hd3 : ∀ {w' : World} {S2 : Ar}, Has o w0 w' ((StP b { x with S := S2 } A).sep ((Part.words hb i vs).sep (.nums (.slice (some ⟨g, 0, none⟩) i nc) cs))) → w'.cell? ⟨g, j, none⟩ = some (.int .i64 ((cs[j] : Nat) : Int)) := fun h => by
            obtain ⟨_, h7, _⟩ := h.right
            obtain ⟨_, h8, _⟩ := h7.right
            obtain ⟨np', nc', he, _, _, hc⟩ := nums_open h8
            obtain ⟨g', hnp, hc⟩ := hc (by omega)
            have e1 : some (⟨g, 0, none⟩ : Addr) = np' := by simp only [Value.slice.injEq] at he; exact he.1
            rw [hnp] at e1
            obtain rfl : g = g' := by simpa using e1
            exact hc j hjc
          have HD3 := Lib.hid (fun w' S2 => @hd3 w' S2)
          clear hk2 hX hlaid h2 h7 h8 hc he hnp hget hnd hnext hskip hd3 HCC
          generalize hcj : cs[j] = cj at *
          clear hcj
          generalize hvj : vs j = v at *
          clear hvj
          by_cases hv0 : v = 0
          · subst hv0
            go_wp2_with fail
            go_roundg (i - (j + 1))
            case measure => rw [HKJ.out]; omega
            case rel => exact ⟨j + 1, S', by omega, rfl, by go_num, HSK.out (by first | trivial | rfl), HX.out⟩
          · have f1 : decide (v = 0) = false := by simpa using hv0
            have f2 : (v == 0) = false := by simpa using hv0
            go_wp2_with fail
            go_region_held3 (fun w' => w'.cell? ⟨b, 0, none⟩ = some (.pointer (some ⟨x.ab, 0, none⟩)) ∧ w'.cell? ⟨g, j, none⟩ = some (.int .i64 (cj : Int)))
              (first | exact ⟨c1, c2⟩ | exact ⟨y1, y2⟩)
              (first | (go_at_call 61
                        refine (HST.out _ (HX.out.quiet ((Kept.refl _ _).drew))).mono ?_
                        rintro e w4 ⟨rfl, hX4⟩
                        obtain ⟨_, h2, _⟩ := hX4.left
                        obtain ⟨y1, _, _, _⟩ := StP.fields h2
                        have y2 := HD3.out _ _ hX4
                        have HX4 := Lib.hid hX4
                        clear hX4 h2))
            go_wp2_with fail
            go_roundg (i - (j + 1))
            case measure => rw [HKJ.out]; omega
            case rel => exact ⟨j + 1, _, by omega, rfl, by go_num, HNX.out, HX4.out⟩
        · have e1 : decide ((j : Int) < (i : Int)) = false := by simp; omega
          have e1' : decide (j < i) = false := by simp; omega
          obtain rfl : j = i := by omega
          have HX := Lib.hid hX
          clear hk2 hX hlaid
          go_wp2_with fail
          go_ret2
          refine ⟨_, cs, S', rfl, HCL.out, HTK.out, ⟨HLD.out.size, fun d hd => ?_, HLD.out.rest⟩, HX.out⟩
          rw [HLD.out.has d hd, if_pos (by rw [← HCL.out]; exact hd)]

set_option maxHeartbeats 4000000 in
set_option maxRecDepth 100000 in
theorem take_full {hb m : Nat} {vs : Nat → Int} (h : Has o w0 w ((StP b x A).sep (.words hb m vs))) (hT : TabAt w0) (ho : 0 ∉ o) (hm : m ≤ 100) (hcs : cnt x.S.get x.S.size ≤ x.S.size) (hfull : x.S.size < cnt x.S.get x.S.size + m) :
    Calls Tryd.prog 54 #[.pointer (some ⟨b, 0, none⟩), .slice (some ⟨hb, 0, none⟩) m m] w fun e w' => ∃ S', e = .returned (.tuple #[.slice none 0 0, .int .i64 31]) ∧ S'.size = x.S.size ∧ S'.steps = x.S.steps ∧ (∀ d, S'.get d = x.S.get d) ∧ Has o w0 w' (StP b { x with S := S' } A) := by
  have HT := Lib.hid hT
  have HO := Lib.hid ho
  have HX := Lib.hid ((h.beside (Has.nilNums _)).assoc)
  have HF := Lib.hid hfull
  have HCS := Lib.hid hcs
  obtain ⟨i0, hi0, hz0, hz1, hz2⟩ := info_parts info_num
  clear h hT ho hfull hcs
  go_enter Tryd.func54, Tryd.ntmps54
  go_wp2_with fail
  go_loopg [6, 13] m (fun k uv iv wr => ∃ (i : Nat) (cs : List Nat), i ≤ m ∧ k = m - i ∧ iv = .int .i64 i ∧ cs.length = i ∧ Took x.S cs ∧ Has o w0 wr ((StP b { x with S := putAll x.S cs } A).sep ((Part.words hb m vs).sep (.nums uv cs))))
  case atStart => exact ⟨0, [], Nat.zero_le _, rfl, rfl, rfl, Took.nil _, HX.out⟩
  case round =>
    clear HX
    obtain ⟨i, cs, hi, hk, rfl, hcl, htk, hX⟩ := hrel
    have HKK := Lib.hid hk
    have HCL := Lib.hid hcl
    have HTK := Lib.hid htk
    have hle : cnt (putAll x.S cs).get x.S.size ≤ x.S.size := cnt_le _ _
    have hcnt := htk.count
    by_cases hlt : i < m
    · have hdd : decide ((i : Int) < (m : Int)) = true := by simp; omega
      have hdd' : decide (i < m) = true := by simp; omega
      obtain ⟨o2, h2, _⟩ := hX.left
      obtain ⟨c1, _, _, _⟩ := StP.fields h2
      by_cases hroom : cnt (putAll x.S cs).get x.S.size < x.S.size
      · obtain ⟨c, hc1, hc2, hc3⟩ := least_free (putAll x.S cs).get x.S.size hroom
        have HAL := Lib.hid (stp_alloc2 hX HT.out HO.out c (by rw [putAll_size]; exact hc1) hc2 hc3)
        have HTK2 := Lib.hid (htk.snoc hc1 hc2)
        clear hk hX h2 htk hc1 hc2 hc3 hcl hle hcnt hroom
        go_wp2_with fail
        refine HAL.out.mono ?_
        rintro e w4 ⟨rfl, hX4⟩
        obtain ⟨o5, h5, _⟩ := hX4.right
        obtain ⟨o6, h6, _⟩ := h5.right
        obtain ⟨np, nc, hnv, hnl, hrow, _⟩ := nums_open h6
        have HROW := Lib.hid hrow
        have HX4 := Lib.hid hX4
        have hl9 : cs.length ≤ 100 := by rw [HCL.out]; omega
        clear hX4 h5 h6 hnv hrow hnl
        go_wp2_with (at_builtin; refine wpList_append_new rfl (.tmp 29) (.tmp 31) 22 rfl 3 i0 (.int .i64 0) 1 8 Tryd.underlying22 hi0 hz0 hz1 hz2 rfl (by decide) _ _ _ rfl (HROW.out.alloc _) ⟨_, 0, none⟩ 1 1 [.int .i64 c] rfl rfl (cell_one _ _ _ _ (by simp)) (by simp [Value.oneCell']) (by simp only [maxLen]; omega) (by omega) ?_)
        intro v' w5 happ
        have HX5 := Lib.hid (nums_more _ HX4.out happ)
        clear happ HROW HX4
        go_wp2_with fail
        go_roundg (m - (i + 1))
        case measure => rw [HKK.out]; omega
        case rel => exact ⟨i + 1, cs ++ [c], by omega, rfl, by go_num, by rw [List.length_append, HCL.out]; rfl, HTK2.out, by rw [putAll_snoc]; exact HX5.out⟩
      · have hall := cnt_all (n := x.S.size) (get := (putAll x.S cs).get) (by omega)
        have HAL := Lib.hid (stp_alloc2_full hX (by rw [putAll_size]; exact hall))
        clear hk hX h2 hcl hle hcnt hroom hall htk
        go_wp2_with fail
        refine HAL.out.mono ?_
        rintro e w4 ⟨rfl, hX4⟩
        have hX5 : Has o w0 w4 (((StP b { x with S := putAll x.S cs } A).sep (.nums u6 cs)).sep (.words hb m vs)) := Has.assoc' (by
          obtain ⟨o9, h9, _, _, b9⟩ := hX4.right
          exact b9 _ _ h9.swap)
        obtain ⟨o9, h9, _, _, b9⟩ := hX5.left
        obtain ⟨o6, h6, _⟩ := h9.right
        obtain ⟨np, nc, rfl, _, _, _⟩ := nums_open h6
        have HGV := Lib.hid (give_walk h9 HTK.out.nodup (fun c hc => by show ((putAll x.S cs).get c).isSome = true; rw [putAll_get, if_pos hc]; rfl))
        have HB9 := Lib.hid b9
        clear hX4 hX5 h9 h6 b9
        go_wp2_with fail
        refine HGV.out.mono ?_
        rintro e w6 ⟨rfl, hX6⟩
        have HX6 := Lib.hid (HB9.out _ _ hX6).fst.fst
        clear hX6
        go_wp2_with fail
        go_ret2
        refine ⟨_, rfl, ?_, ?_, fun d => ?_, HX6.out⟩
        · show (dropAll (putAll x.S cs) cs).size = _; rw [dropAll_size, putAll_size]
        · show (dropAll (putAll x.S cs) cs).steps = _; rw [dropAll_steps, putAll_steps]
        · show (dropAll (putAll x.S cs) cs).get d = _
          rw [dropAll_get, putAll_get]
          by_cases hd : d ∈ cs
          · rw [if_pos hd, (HTK.out.free d hd).1]
          · rw [if_neg hd, if_neg hd]
    · exfalso
      have := HF.out
      omega
end Go.Proofs.YtbodobdllchmgaaDoor
