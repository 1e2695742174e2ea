/- The walks of a store's own look-ups: which node, version, transaction; none. -/
import Derived.Test.YtbodobdllchmgaaDoorStoreSt
namespace Go.Proofs.YtbodobdllchmgaaDoor
open Go Go.RowKit
set_option linter.unusedVariables false

variable {o : List Nat} {w0 w : World} {b : Nat} {x : StIx} {A : ASt}

theorem StP.fields (h : Has o w0 w (StP b x A)) : w.cell? ⟨b, 0, none⟩ = some (.pointer (some ⟨x.ab, 0, none⟩)) ∧ w.cell? ⟨b, 1, none⟩ = some x.nv ∧ w.cell? ⟨b, 2, none⟩ = some x.vv ∧ w.cell? ⟨b, 3, none⟩ = some x.tv := by
  obtain ⟨o1, h1, _⟩ := h.left
  obtain ⟨o2, h2, _⟩ := h1.left
  exact ⟨(h2.blkAt (i := 0) (by omega)).1, (h2.blkAt (i := 1) (by omega)).1, (h2.blkAt (i := 2) (by omega)).1, (h2.blkAt (i := 3) (by omega)).1⟩

theorem StP.nodes (h : Has o w0 w (StP b x A)) : ∃ o', Has o' w w (.rows 96 2 x.nv A.nN (nodeF x.C)) := by
  obtain ⟨o1, h1, _⟩ := h.right
  obtain ⟨o2, h2, _⟩ := h1.left
  exact ⟨o2, h2⟩
theorem StP.vers (h : Has o w0 w (StP b x A)) : ∃ o', Has o' w w (.rows 103 5 x.vv A.nV (verF x.C A)) := by
  obtain ⟨o1, h1, _⟩ := h.right
  obtain ⟨o2, h2, _⟩ := h1.right
  obtain ⟨o3, h3, _⟩ := h2.left
  exact ⟨o3, h3⟩
theorem StP.txns (h : Has o w0 w (StP b x A)) : ∃ o', Has o' w w (.rows 148 2 x.tv A.nT (txnF x.C A)) := by
  obtain ⟨o1, h1, _⟩ := h.right
  obtain ⟨o2, h2, _⟩ := h1.right
  obtain ⟨o3, h3, _⟩ := h2.right
  exact ⟨o3, h3⟩

theorem nodeF_len (C : Cells) (i : Nat) : (nodeF C i).length = 2 := rfl
theorem verF_len (C : Cells) (A : ASt) (i : Nat) : (verF C A i).length = 5 := rfl
theorem txnF_len (C : Cells) (A : ASt) (i : Nat) : (txnF C A i).length = 2 := rfl

set_option maxHeartbeats 1000000 in
set_option maxRecDepth 100000 in
theorem version_no (h : Has o w0 w (StP b x A)) (n : Int) (hn : ∀ i : Nat, n = (i : Int) + 1 → A.ver i = false) :
    Calls Tryd.prog 53 #[.pointer (some ⟨b, 0, none⟩), .int .i64 n] w fun e w' => e = .returned (.pointer none) ∧ w' = w := by
  obtain ⟨_, _, c2, _⟩ := StP.fields h
  obtain ⟨o2, h2⟩ := StP.vers h
  obtain ⟨vp, vc, hvv⟩ := h2.rowsSlice
  have HR := Lib.hid h2
  have HN := Lib.hid hn
  rw [hvv] at c2
  have h9 : A.nV ≤ 9223372036854775807 := Nat.le_trans h2.rowsSmall (by decide)
  clear h h2 hn
  go_enter Tryd.func53, Tryd.ntmps53
  by_cases h1 : n < 1
  · have d1 : decide (n < 1) = true := by simpa using h1
    go_wp2_with fail
    go_ret
    exact ⟨rfl, rfl⟩
  have d1 : decide (n < 1) = false := by simpa using h1
  by_cases h3 : (A.nV : Int) < n
  · have d2 : decide (n > (A.nV : Int)) = true := by simpa using h3
    go_wp2_with fail
    go_ret
    exact ⟨rfl, rfl⟩
  have d2 : decide (n > (A.nV : Int)) = false := by simp; omega
  obtain ⟨i, hi⟩ : ∃ i : Nat, n = (i : Int) + 1 := ⟨(n - 1).toNat, by omega⟩
  have hg := HN.out i hi
  have hin : i < A.nV := by omega
  have hgone : (A.V i).gone = true := by
    unfold ASt.ver at hg
    simpa [hin] using hg
  obtain ⟨g, cap, e, hc, _, _⟩ := HR.out.rowsAt (verF_len _ _) hin
  rw [e] at hvv
  obtain ⟨rfl, rfl⟩ : vp = some ⟨g, 0, none⟩ ∧ vc = cap := by simpa using hvv.symm
  have cg := hc 4 (.bool true) (by rw [← hgone]; rfl)
  have hb : 0 ≤ n - 1 ∧ n - 1 < (A.nV : Int) := by omega
  have hnn : n - 1 = (i : Int) := by omega
  clear hc HN HR
  subst hi
  go_wp2_with fail
  go_ret
  exact ⟨rfl, rfl⟩

set_option maxHeartbeats 1000000 in
set_option maxRecDepth 100000 in
theorem version_at (h : Has o w0 w (StP b x A)) (i : Nat) (hv : A.ver i = true) {g cap : Nat} (hvv : x.vv = .slice (some ⟨g, 0, none⟩) A.nV cap) :
    Calls Tryd.prog 53 #[.pointer (some ⟨b, 0, none⟩), .int .i64 ((i : Int) + 1)] w fun e w' => e = .returned (.pointer (some ⟨g, i * 5, none⟩)) ∧ w' = w := by
  obtain ⟨_, _, c2, _⟩ := StP.fields h
  obtain ⟨o2, h2⟩ := StP.vers h
  have h9 : A.nV ≤ 9223372036854775807 := Nat.le_trans h2.rowsSmall (by decide)
  obtain ⟨hin, hgone⟩ : i < A.nV ∧ (A.V i).gone = false := by unfold ASt.ver at hv; simpa using hv
  obtain ⟨g', cap', e, hc, _, _⟩ := h2.rowsAt (verF_len _ _) hin
  rw [hvv] at e c2
  obtain ⟨rfl, rfl⟩ : g = g' ∧ cap = cap' := by simpa using e
  have cg := hc 4 (.bool false) (by rw [← hgone]; rfl)
  have hb : 0 ≤ (i : Int) ∧ (i : Int) < (A.nV : Int) := by omega
  have d1 : decide ((i : Int) + 1 < 1) = false := by simp; omega
  have d2 : decide ((i : Int) + 1 > (A.nV : Int)) = false := by simp; omega
  clear h h2 hc e hv hvv
  go_enter Tryd.func53, Tryd.ntmps53
  go_wp2_with fail
  go_ret
  exact ⟨rfl, rfl⟩
set_option maxHeartbeats 1000000 in
set_option maxRecDepth 100000 in
theorem node_no (h : Has o w0 w (StP b x A)) (n : Int) (hn : ∀ i : Nat, n = (i : Int) + 1 → A.nN ≤ i) :
    Calls Tryd.prog 49 #[.pointer (some ⟨b, 0, none⟩), .int .i64 n] w fun e w' => e = .returned (.pointer none) ∧ w' = w := by
  obtain ⟨_, c2, _, _⟩ := StP.fields h
  obtain ⟨o2, h2⟩ := StP.nodes h
  obtain ⟨vp, vc, hvv⟩ := h2.rowsSlice
  have HR := Lib.hid h2
  have HN := Lib.hid hn
  rw [hvv] at c2
  have h9 : A.nN ≤ 9223372036854775807 := Nat.le_trans h2.rowsSmall (by decide)
  clear h h2 hn
  go_enter Tryd.func49, Tryd.ntmps49
  by_cases h1 : n < 1
  · have d1 : decide (n < 1) = true := by simpa using h1
    go_wp2_with fail
    go_ret
    exact ⟨rfl, rfl⟩
  have d1 : decide (n < 1) = false := by simpa using h1
  by_cases h3 : (A.nN : Int) < n
  · have d2 : decide (n > (A.nN : Int)) = true := by simpa using h3
    go_wp2_with fail
    go_ret
    exact ⟨rfl, rfl⟩
  have d2 : decide (n > (A.nN : Int)) = false := by simp; omega
  obtain ⟨i, hi⟩ : ∃ i : Nat, n = (i : Int) + 1 := ⟨(n - 1).toNat, by omega⟩
  have hg := HN.out i hi
  omega

set_option maxHeartbeats 1000000 in
set_option maxRecDepth 100000 in
theorem node_at (h : Has o w0 w (StP b x A)) (i : Nat) (hin : i < A.nN) {g cap : Nat} (hvv : x.nv = .slice (some ⟨g, 0, none⟩) A.nN cap) :
    Calls Tryd.prog 49 #[.pointer (some ⟨b, 0, none⟩), .int .i64 ((i : Int) + 1)] w fun e w' => e = .returned (.pointer (some ⟨g, i * 2, none⟩)) ∧ w' = w := by
  obtain ⟨_, c2, _, _⟩ := StP.fields h
  obtain ⟨o2, h2⟩ := StP.nodes h
  have h9 : A.nN ≤ 9223372036854775807 := Nat.le_trans h2.rowsSmall (by decide)
  obtain ⟨g', cap', e, hc, _, _⟩ := h2.rowsAt (nodeF_len _) hin
  rw [hvv] at e c2
  obtain ⟨rfl, rfl⟩ : g = g' ∧ cap = cap' := by simpa using e
  have hb : 0 ≤ (i : Int) ∧ (i : Int) < (A.nN : Int) := by omega
  have d1 : decide ((i : Int) + 1 < 1) = false := by simp; omega
  have d2 : decide ((i : Int) + 1 > (A.nN : Int)) = false := by simp; omega
  clear h h2 hc e hvv
  go_enter Tryd.func49, Tryd.ntmps49
  go_wp2_with fail
  go_ret
  exact ⟨rfl, rfl⟩
set_option maxHeartbeats 1000000 in
set_option maxRecDepth 100000 in
theorem none_walk (w : World) (b : Nat) : Calls Tryd.prog 50 #[.pointer (some ⟨b, 0, none⟩)] w fun e w' => e = .returned (.int .i64 110) ∧ w' = w := by
  go_enter Tryd.func50, Tryd.ntmps50
  go_wp2_with fail
  go_ret
  exact ⟨rfl, rfl⟩

theorem StP.verCells (h : Has o w0 w (StP b x A)) {i : Nat} (hi : i < A.nV) {g cap : Nat} (hvv : x.vv = .slice (some ⟨g, 0, none⟩) A.nV cap) :
    w.cell? ⟨g, i * 5, none⟩ = some (.string (A.V i).val) ∧ w.cell? ⟨g, i * 5 + 1, none⟩ = some (.int .i64 (x.C.v i).1) ∧ w.cell? ⟨g, i * 5 + 2, none⟩ = some (.int .i64 (x.C.v i).2.1) ∧ w.cell? ⟨g, i * 5 + 3, none⟩ = some (.int .i64 (x.C.v i).2.2) := by
  obtain ⟨o2, h2⟩ := StP.vers h
  obtain ⟨g', cap', e, hc, _, _⟩ := h2.rowsAt (verF_len _ _) hi
  rw [hvv] at e
  obtain ⟨rfl, rfl⟩ : g = g' ∧ cap = cap' := by simpa using e
  exact ⟨hc 0 _ rfl, hc 1 _ rfl, hc 2 _ rfl, hc 3 _ rfl⟩
theorem StP.verSlice (h : Has o w0 w (StP b x A)) {i : Nat} (hi : i < A.nV) : ∃ g cap, x.vv = .slice (some ⟨g, 0, none⟩) A.nV cap := by
  obtain ⟨o2, h2⟩ := StP.vers h
  obtain ⟨g', cap', e, _⟩ := h2.rowsAt (verF_len _ _) hi
  exact ⟨g', cap', e⟩
theorem StP.nodeCells (h : Has o w0 w (StP b x A)) {i : Nat} (hi : i < A.nN) {g cap : Nat} (hvv : x.nv = .slice (some ⟨g, 0, none⟩) A.nN cap) :
    w.cell? ⟨g, i * 2, none⟩ = some (.int .i64 (x.C.n i).1) ∧ w.cell? ⟨g, i * 2 + 1, none⟩ = some (.int .i64 (x.C.n i).2) := by
  obtain ⟨o2, h2⟩ := StP.nodes h
  obtain ⟨g', cap', e, hc, _, _⟩ := h2.rowsAt (nodeF_len _) hi
  rw [hvv] at e
  obtain ⟨rfl, rfl⟩ : g = g' ∧ cap = cap' := by simpa using e
  exact ⟨hc 0 _ rfl, hc 1 _ rfl⟩
theorem StP.nodeSlice (h : Has o w0 w (StP b x A)) {i : Nat} (hi : i < A.nN) : ∃ g cap, x.nv = .slice (some ⟨g, 0, none⟩) A.nN cap := by
  obtain ⟨o2, h2⟩ := StP.nodes h
  obtain ⟨g', cap', e, _⟩ := h2.rowsAt (nodeF_len _) hi
  exact ⟨g', cap', e⟩
theorem StP.txnCells (h : Has o w0 w (StP b x A)) {i : Nat} (hi : i < A.nT) {g cap : Nat} (hvv : x.tv = .slice (some ⟨g, 0, none⟩) A.nT cap) :
    w.cell? ⟨g, i * 2, none⟩ = some (.int .i64 (x.C.t i)) ∧ w.cell? ⟨g, i * 2 + 1, none⟩ = some (.bool (A.T i).2) := by
  obtain ⟨o2, h2⟩ := StP.txns h
  obtain ⟨g', cap', e, hc, _, _⟩ := h2.rowsAt (txnF_len _ _) hi
  rw [hvv] at e
  obtain ⟨rfl, rfl⟩ : g = g' ∧ cap = cap' := by simpa using e
  exact ⟨hc 0 _ rfl, hc 1 _ rfl⟩
theorem StP.txnSlice (h : Has o w0 w (StP b x A)) {i : Nat} (hi : i < A.nT) : ∃ g cap, x.tv = .slice (some ⟨g, 0, none⟩) A.nT cap := by
  obtain ⟨o2, h2⟩ := StP.txns h
  obtain ⟨g', cap', e, _⟩ := h2.rowsAt (txnF_len _ _) hi
  exact ⟨g', cap', e⟩

theorem at_head {A : ASt} {i : Nat} {v : Int} (h : A.at_ (.head i) = some v) : i < A.nN := by
  unfold ASt.at_ at h
  by_cases e : i < A.nN
  · exact e
  · simp [e] at h
theorem at_lock {A : ASt} {i : Nat} {v : Int} (h : A.at_ (.lock i) = some v) : i < A.nN := by
  unfold ASt.at_ at h
  by_cases e : i < A.nN
  · exact e
  · simp [e] at h
theorem ver_lt {A : ASt} {i : Nat} (h : A.ver i = true) : i < A.nV := by unfold ASt.ver at h; simp at h; exact h.1
theorem txn_lt {A : ASt} {i : Nat} (h : A.txn i = true) : i < A.nT := by unfold ASt.txn at h; simp at h; exact h.1
theorem at_begin {A : ASt} {i : Nat} {v : Int} (h : A.at_ (.begin_ i) = some v) : A.ver i = true := by
  unfold ASt.at_ at h
  cases e : A.ver i
  · simp [e] at h
  · rfl
theorem at_end {A : ASt} {i : Nat} {v : Int} (h : A.at_ (.end_ i) = some v) : A.ver i = true := by
  unfold ASt.at_ at h
  cases e : A.ver i
  · simp [e] at h
  · rfl
theorem at_next {A : ASt} {i : Nat} {v : Int} (h : A.at_ (.next i) = some v) : A.ver i = true := by
  unfold ASt.at_ at h
  cases e : A.ver i
  · simp [e] at h
  · rfl
theorem at_state {A : ASt} {i : Nat} {v : Int} (h : A.at_ (.state i) = some v) : A.txn i = true := by
  unfold ASt.at_ at h
  cases e : A.txn i
  · simp [e] at h
  · rfl

/-- The arena's steps, under a store. -/
theorem stp_arena (h : Has o w0 w (StP b x A)) : ∃ o', OwnF o' w w x.ab x.S ∧ (∀ y ∈ o', y ∈ o ∨ w0.heap.size ≤ y) ∧ ∀ w' S', OwnF o' w w' x.ab S' → Has o w0 w' (StP b { x with S := S' } A) := by
  obtain ⟨o1, h1, p1, _, b1⟩ := h.left
  obtain ⟨o2, h2, p2, q2, b2⟩ := h1.right
  obtain ⟨hab, h2⟩ := h2.whenOut
  refine ⟨o2, h2, fun y hy => ?_, fun w' S' hS => b1 _ _ (b2 _ _ (Has.whenIn hab hS))⟩
  rcases p2 y hy with h | h
  · exact p1 y h
  · have := q2 y hy; omega

theorem stp_load (h : Has o w0 w (StP b x A)) (hr : StRep x.S x.C A) (l : Loc) (v : Int) (hl : A.at_ l = some v) :
    Calls Tryd.prog 51 #[.pointer (some ⟨x.ab, 0, none⟩), .int .i64 (x.C.of l)] w fun e w' => e = .returned (.tuple #[.int .u64 v, .int .i64 0]) ∧ Has o w0 w' (StP b { x with S := x.S.step } A.step) := by
  obtain ⟨o', hO, _, back⟩ := stp_arena h
  refine (own_load hO _ v (hr.has l v hl)).mono ?_
  rintro e w' ⟨rfl, h'⟩
  exact ⟨rfl, back _ _ h'⟩

theorem stRows_set (x : StIx) (A : ASt) (l : Loc) (v : Int) (S : Ar) : StRows { x with S := S } (A.set l v) = StRows x A := by
  unfold StRows
  rw [A.nN_set, A.nV_set, A.nT_set]
  have e1 : verF x.C (A.set l v) = verF x.C A := funext fun i => by unfold verF; rw [A.val_set, A.gone_set]
  have e2 : txnF x.C (A.set l v) = txnF x.C A := funext fun i => by unfold txnF; rw [A.goneT_set]
  simp only [e1, e2]

theorem stp_store (h : Has o w0 w (StP b x A)) (hr : StRep x.S x.C A) (l : Loc) (u v : Int) (hl : A.at_ l = some u) :
    Calls Tryd.prog 61 #[.pointer (some ⟨x.ab, 0, none⟩), .int .i64 (x.C.of l), .int .u64 v] w fun e w' => e = .returned (.int .i64 0) ∧ Has o w0 w' (StP b { x with S := x.S.step.put (x.C.of l) v } (A.step.set l v)) := by
  obtain ⟨o', hO, _, back⟩ := stp_arena h
  refine (own_store hO _ u v (hr.has l u hl)).mono ?_
  rintro e w' ⟨rfl, h'⟩
  have h2 := back _ _ h'
  refine ⟨rfl, ?_⟩
  unfold StP at h2 ⊢
  rw [stRows_set, ASt.ab_set]
  exact h2

theorem stp_cas (h : Has o w0 w (StP b x A)) (hr : StRep x.S x.C A) (l : Loc) (u v : Int) (hl : A.at_ l = some u) :
    Calls Tryd.prog 55 #[.pointer (some ⟨x.ab, 0, none⟩), .int .i64 (x.C.of l), .int .u64 u, .int .u64 v] w fun e w' => e = .returned (.tuple #[.bool true, .int .i64 0]) ∧ Has o w0 w' (StP b { x with S := x.S.step.put (x.C.of l) v } (A.step.set l v)) := by
  obtain ⟨o', hO, _, back⟩ := stp_arena h
  refine (own_cas hO _ u v (hr.has l u hl)).mono ?_
  rintro e w' ⟨rfl, h'⟩
  have h2 := back _ _ h'
  refine ⟨rfl, ?_⟩
  unfold StP at h2 ⊢
  rw [stRows_set, ASt.ab_set]
  exact h2

theorem stp_cas_not (h : Has o w0 w (StP b x A)) (hr : StRep x.S x.C A) (l : Loc) (u old v : Int) (hl : A.at_ l = some u) (hne : u ≠ old) :
    Calls Tryd.prog 55 #[.pointer (some ⟨x.ab, 0, none⟩), .int .i64 (x.C.of l), .int .u64 old, .int .u64 v] w fun e w' => e = .returned (.tuple #[.bool false, .int .i64 0]) ∧ Has o w0 w' (StP b { x with S := x.S.step } A.step) := by
  obtain ⟨o', hO, _, back⟩ := stp_arena h
  refine (own_cas_not hO _ u old v (hr.has l u hl) hne).mono ?_
  rintro e w' ⟨rfl, h'⟩
  exact ⟨rfl, back _ _ h'⟩
end Go.Proofs.YtbodobdllchmgaaDoor
