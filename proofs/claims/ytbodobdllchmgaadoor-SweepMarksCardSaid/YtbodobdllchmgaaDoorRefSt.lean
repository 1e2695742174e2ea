/- The reference's store, over the same plain store, and its look-ups. -/
import Derived.Test.YtbodobdllchmgaaDoorStoreAt
namespace Go.Proofs.YtbodobdllchmgaaDoor
open Go Go.RowKit
set_option linter.unusedVariables false

variable {o : List Nat} {w0 w : World}

def rnF (A : ASt) (i : Nat) : List Value := [.int .i64 (A.N i).1, .int .u64 (A.N i).2]
def rvF (A : ASt) (i : Nat) : List Value := [.string (A.V i).val, .int .u64 (A.V i).begin_, .int .u64 (A.V i).end_, .int .i64 (A.V i).next, .bool (A.V i).gone]
def rtF (A : ASt) (i : Nat) : List Value := [.int .u64 (A.T i).1, .bool (A.T i).2]
theorem rnF_len (A : ASt) (i : Nat) : (rnF A i).length = 2 := rfl
theorem rvF_len (A : ASt) (i : Nat) : (rvF A i).length = 5 := rfl
theorem rtF_len (A : ASt) (i : Nat) : (rtF A i).length = 2 := rfl

/-- Its block: the three rows, how many cells are free, how many steps there were. -/
def rfF (nv vv tv : Value) (fr rs : Int) (i : Nat) : Value := if i = 0 then nv else if i = 1 then vv else if i = 2 then tv else if i = 3 then .int .i64 fr else .int .i64 rs

structure RfIx where
  nv : Value
  vv : Value
  tv : Value

noncomputable def RfRows (x : RfIx) (A : ASt) : Part :=
  (Part.rows 77 2 x.nv A.nN (rnF A)).sep ((Part.rows 82 5 x.vv A.nV (rvF A)).sep (.rows 146 2 x.tv A.nT (rtF A)))
noncomputable def RfP (b : Nat) (x : RfIx) (A : ASt) (fr rs : Int) : Part := (Part.blk b 5 73 (rfF x.nv x.vv x.tv fr rs)).sep (RfRows x A)

/-- The free cells. -/
def ASt.free (A : ASt) : Int := (A.size : Int) - (A.used : Int)

/-- The reference's store in memory. -/
noncomputable def Part.rstore (b : Nat) (A : ASt) (rs : Int) : Part := .ex fun x : RfIx => RfP b x A A.free rs

theorem Has.rfOpen {b : Nat} {A : ASt} {rs : Int} (h : Has o w0 w (.rstore b A rs)) : ∃ x : RfIx, Has o w0 w (RfP b x A A.free rs) := h.exOut
theorem Has.rfShut {b : Nat} {A : ASt} {rs : Int} {x : RfIx} (h : Has o w0 w (RfP b x A A.free rs)) : Has o w0 w (.rstore b A rs) := Has.exIn x h

variable {b : Nat} {x : RfIx} {A : ASt} {fr rs : Int}

theorem RfP.fields (h : Has o w0 w (RfP b x A fr rs)) : w.cell? ⟨b, 0, none⟩ = some x.nv ∧ w.cell? ⟨b, 1, none⟩ = some x.vv ∧ w.cell? ⟨b, 2, none⟩ = some x.tv ∧ w.cell? ⟨b, 3, none⟩ = some (.int .i64 fr) ∧ w.cell? ⟨b, 4, none⟩ = some (.int .i64 rs) ∧ ∀ i, i < 5 → w.frozen? ⟨b, i, none⟩ = false := by
  obtain ⟨o1, h1, _⟩ := h.left
  exact ⟨(h1.blkAt (i := 0) (by omega)).1, (h1.blkAt (i := 1) (by omega)).1, (h1.blkAt (i := 2) (by omega)).1, (h1.blkAt (i := 3) (by omega)).1, (h1.blkAt (i := 4) (by omega)).1, fun i hi => (h1.blkAt hi).2.1⟩

/-- Other numbers of free cells and of steps. -/
theorem RfP.putFree (h : Has o w0 w (RfP b x A fr rs)) (u : Int) : Has o w0 (w.setCell ⟨b, 3, none⟩ (.int .i64 u)) (RfP b x A u rs) := by
  obtain ⟨o1, h1, _, _, b1⟩ := h.left
  have h2 := (h1.blkAt (i := 3) (by omega)).2.2 (.int .i64 u)
  have e : upd (rfF x.nv x.vv x.tv fr rs) 3 (.int .i64 u) = rfF x.nv x.vv x.tv u rs := funext fun i => by
    unfold upd rfF
    by_cases e : i = 3
    · subst e; rfl
    · simp [e]
  rw [e] at h2
  exact b1 _ _ h2
theorem RfP.putSteps (h : Has o w0 w (RfP b x A fr rs)) (u : Int) : Has o w0 (w.setCell ⟨b, 4, none⟩ (.int .i64 u)) (RfP b x A fr u) := by
  obtain ⟨o1, h1, _, _, b1⟩ := h.left
  have h2 := (h1.blkAt (i := 4) (by omega)).2.2 (.int .i64 u)
  have e : ∀ i, i < 5 → upd (rfF x.nv x.vv x.tv fr rs) 4 (.int .i64 u) i = rfF x.nv x.vv x.tv fr u i := fun i hi => by
    unfold upd rfF
    rcases (by omega : i = 0 ∨ i = 1 ∨ i = 2 ∨ i = 3 ∨ i = 4) with rfl | rfl | rfl | rfl | rfl <;> simp
  refine b1 _ _ (h2.mono ?_)
  rintro fp ⟨hb, rfl⟩
  exact ⟨hb.congr e, rfl⟩

theorem RfP.nodes (h : Has o w0 w (RfP b x A fr rs)) : ∃ o', Has o' w w (.rows 77 2 x.nv A.nN (rnF A)) ∧ ∀ w' A' nv, Has o' w w' (.rows 77 2 nv A'.nN (rnF A')) → A'.nV = A.nV → A'.nT = A.nT → rvF A' = rvF A → rtF A' = rtF A → nv = x.nv → Has o w0 w' (RfP b x A' fr rs) := by
  obtain ⟨o1, h1, _, _, b1⟩ := h.right
  obtain ⟨o2, h2, _, _, b2⟩ := h1.left
  refine ⟨o2, h2, fun w' A' nv h' e1 e2 e3 e4 e5 => ?_⟩
  subst e5
  have := b1 _ _ (b2 _ _ h')
  unfold RfP RfRows
  rw [e1, e2, e3, e4]
  exact this
theorem RfP.vers (h : Has o w0 w (RfP b x A fr rs)) : ∃ o', Has o' w w (.rows 82 5 x.vv A.nV (rvF A)) ∧ ∀ w' A', Has o' w w' (.rows 82 5 x.vv A'.nV (rvF A')) → A'.nN = A.nN → A'.nT = A.nT → rnF A' = rnF A → rtF A' = rtF A → Has o w0 w' (RfP b x A' fr rs) := by
  obtain ⟨o1, h1, _, _, b1⟩ := h.right
  obtain ⟨o2, h2, _, _, b2⟩ := h1.right
  obtain ⟨o3, h3, _, _, b3⟩ := h2.left
  refine ⟨o3, h3, fun w' A' h' e1 e2 e3 e4 => ?_⟩
  have := b1 _ _ (b2 _ _ (b3 _ _ h'))
  unfold RfP RfRows
  rw [e1, e2, e3, e4]
  exact this
theorem RfP.txns (h : Has o w0 w (RfP b x A fr rs)) : ∃ o', Has o' w w (.rows 146 2 x.tv A.nT (rtF A)) ∧ ∀ w' A', Has o' w w' (.rows 146 2 x.tv A'.nT (rtF A')) → A'.nN = A.nN → A'.nV = A.nV → rnF A' = rnF A → rvF A' = rvF A → Has o w0 w' (RfP b x A' fr rs) := by
  obtain ⟨o1, h1, _, _, b1⟩ := h.right
  obtain ⟨o2, h2, _, _, b2⟩ := h1.right
  obtain ⟨o3, h3, _, _, b3⟩ := h2.right
  refine ⟨o3, h3, fun w' A' h' e1 e2 e3 e4 => ?_⟩
  have := b1 _ _ (b2 _ _ (b3 _ _ h'))
  unfold RfP RfRows
  rw [e1, e2, e3, e4]
  exact this

theorem RfP.small (h : Has o w0 w (RfP b x A fr rs)) : A.nN ≤ maxLen ∧ A.nV ≤ maxLen ∧ A.nT ≤ maxLen := by
  obtain ⟨_, h1, _⟩ := RfP.nodes h
  obtain ⟨_, h2, _⟩ := RfP.vers h
  obtain ⟨_, h3, _⟩ := RfP.txns h
  exact ⟨h1.rowsSmall, h2.rowsSmall, h3.rowsSmall⟩
theorem RfP.slices (h : Has o w0 w (RfP b x A fr rs)) : (∃ p c, x.nv = .slice p A.nN c) ∧ (∃ p c, x.vv = .slice p A.nV c) ∧ ∃ p c, x.tv = .slice p A.nT c := by
  obtain ⟨_, h1, _⟩ := RfP.nodes h
  obtain ⟨_, h2, _⟩ := RfP.vers h
  obtain ⟨_, h3, _⟩ := RfP.txns h
  exact ⟨h1.rowsSlice, h2.rowsSlice, h3.rowsSlice⟩

/-- A version's cells, and what a store of a number leaves. -/
theorem RfP.ver (h : Has o w0 w (RfP b x A fr rs)) {i : Nat} (hi : i < A.nV) : ∃ g cap, x.vv = .slice (some ⟨g, 0, none⟩) A.nV cap ∧ g ≠ b ∧ w.cell? ⟨g, i * 5, none⟩ = some (.string (A.V i).val) ∧ w.cell? ⟨g, i * 5 + 1, none⟩ = some (.int .u64 (A.V i).begin_) ∧ w.cell? ⟨g, i * 5 + 2, none⟩ = some (.int .u64 (A.V i).end_) ∧ w.cell? ⟨g, i * 5 + 3, none⟩ = some (.int .i64 (A.V i).next) ∧ w.cell? ⟨g, i * 5 + 4, none⟩ = some (.bool (A.V i).gone) ∧
    (∀ j, w.frozen? ⟨g, j, none⟩ = false) ∧ (∀ v, Has o w0 (w.setCell ⟨g, i * 5 + 1, none⟩ (.int .u64 v)) (RfP b x (A.set (.begin_ i) v) fr rs)) ∧ (∀ v, Has o w0 (w.setCell ⟨g, i * 5 + 2, none⟩ (.int .u64 v)) (RfP b x (A.set (.end_ i) v) fr rs)) ∧ (∀ v, Has o w0 (w.setCell ⟨g, i * 5 + 3, none⟩ (.int .i64 v)) (RfP b x (A.set (.next i) v) fr rs)) := by
  obtain ⟨o1, h1, b1⟩ := RfP.vers h
  obtain ⟨g, cap, e, hc, hf, hput⟩ := h1.rowsAt (rvF_len _) hi
  have hgb : g ≠ b := by
    obtain ⟨fp, ⟨f, f2, ⟨hb, rfl⟩, ⟨f3, f4, ⟨hn, rfl⟩, ⟨f5, f6, ⟨hv, rfl⟩, ht, d3, rfl⟩, d2, rfl⟩, d1, rfl⟩, hn2, k⟩ := h
    intro eg
    refine d1 b (by simp) ?_
    rw [e]
    simp [rowsOf, Value.ownBlock, eg]
  refine ⟨g, cap, e, hgb, hc 0 _ rfl, hc 1 _ rfl, hc 2 _ rfl, hc 3 _ rfl, hc 4 _ rfl, hf, fun v => ?_, fun v => ?_, fun v => ?_⟩
  · have h2 := hput 1 (.int .u64 v) (by omega)
    have e2 : (fun d => if d = i then (rvF A i).set 1 (.int .u64 v) else rvF A d) = rvF (A.set (.begin_ i) v) := funext fun d => by
      unfold rvF ASt.set
      by_cases ed : d = i
      · subst ed; simp
      · simp [ed]
    rw [e2] at h2
    exact b1 _ _ h2 rfl rfl rfl rfl
  · have h2 := hput 2 (.int .u64 v) (by omega)
    have e2 : (fun d => if d = i then (rvF A i).set 2 (.int .u64 v) else rvF A d) = rvF (A.set (.end_ i) v) := funext fun d => by
      unfold rvF ASt.set
      by_cases ed : d = i
      · subst ed; simp
      · simp [ed]
    rw [e2] at h2
    exact b1 _ _ h2 rfl rfl rfl rfl
  · have h2 := hput 3 (.int .i64 v) (by omega)
    have e2 : (fun d => if d = i then (rvF A i).set 3 (.int .i64 v) else rvF A d) = rvF (A.set (.next i) v) := funext fun d => by
      unfold rvF ASt.set
      by_cases ed : d = i
      · subst ed; simp
      · simp [ed]
    rw [e2] at h2
    exact b1 _ _ h2 rfl rfl rfl rfl

/-- A node's. -/
theorem RfP.node (h : Has o w0 w (RfP b x A fr rs)) {i : Nat} (hi : i < A.nN) : ∃ g cap, x.nv = .slice (some ⟨g, 0, none⟩) A.nN cap ∧ g ≠ b ∧ w.cell? ⟨g, i * 2, none⟩ = some (.int .i64 (A.N i).1) ∧ w.cell? ⟨g, i * 2 + 1, none⟩ = some (.int .u64 (A.N i).2) ∧
    (∀ j, w.frozen? ⟨g, j, none⟩ = false) ∧ (∀ v, Has o w0 (w.setCell ⟨g, i * 2, none⟩ (.int .i64 v)) (RfP b x (A.set (.head i) v) fr rs)) ∧ (∀ v, Has o w0 (w.setCell ⟨g, i * 2 + 1, none⟩ (.int .u64 v)) (RfP b x (A.set (.lock i) v) fr rs)) := by
  obtain ⟨o1, h1, b1⟩ := RfP.nodes h
  obtain ⟨g, cap, e, hc, hf, hput⟩ := h1.rowsAt (rnF_len _) hi
  have hgb : g ≠ b := by
    obtain ⟨fp, ⟨f, f2, ⟨hb, rfl⟩, ⟨f3, f4, ⟨hn, rfl⟩, ht, d2, rfl⟩, d1, rfl⟩, hn2, k⟩ := h
    intro eg
    refine d1 b (by simp) ?_
    rw [e]
    simp [rowsOf, Value.ownBlock, eg]
  refine ⟨g, cap, e, hgb, hc 0 _ rfl, hc 1 _ rfl, hf, fun v => ?_, fun v => ?_⟩
  · have h2 := hput 0 (.int .i64 v) (by omega)
    have e2 : (fun d => if d = i then (rnF A i).set 0 (.int .i64 v) else rnF A d) = rnF (A.set (.head i) v) := funext fun d => by
      unfold rnF ASt.set
      by_cases ed : d = i
      · subst ed; simp
      · simp [ed]
    rw [e2] at h2
    exact b1 _ _ _ h2 rfl rfl rfl rfl rfl
  · have h2 := hput 1 (.int .u64 v) (by omega)
    have e2 : (fun d => if d = i then (rnF A i).set 1 (.int .u64 v) else rnF A d) = rnF (A.set (.lock i) v) := funext fun d => by
      unfold rnF ASt.set
      by_cases ed : d = i
      · subst ed; simp
      · simp [ed]
    rw [e2] at h2
    exact b1 _ _ _ h2 rfl rfl rfl rfl rfl

/-- A transaction's. -/
theorem RfP.txn (h : Has o w0 w (RfP b x A fr rs)) {i : Nat} (hi : i < A.nT) : ∃ g cap, x.tv = .slice (some ⟨g, 0, none⟩) A.nT cap ∧ g ≠ b ∧ w.cell? ⟨g, i * 2, none⟩ = some (.int .u64 (A.T i).1) ∧ w.cell? ⟨g, i * 2 + 1, none⟩ = some (.bool (A.T i).2) ∧
    (∀ j, w.frozen? ⟨g, j, none⟩ = false) ∧ (∀ v, Has o w0 (w.setCell ⟨g, i * 2, none⟩ (.int .u64 v)) (RfP b x (A.set (.state i) v) fr rs)) := by
  obtain ⟨o1, h1, b1⟩ := RfP.txns h
  obtain ⟨g, cap, e, hc, hf, hput⟩ := h1.rowsAt (rtF_len _) hi
  have hgb : g ≠ b := by
    obtain ⟨fp, ⟨f, f2, ⟨hb, rfl⟩, ⟨f3, f4, ⟨hn, rfl⟩, ⟨f5, f6, hv, ⟨ht, rfl⟩, d3, rfl⟩, d2, rfl⟩, d1, rfl⟩, hn2, k⟩ := h
    intro eg
    refine d1 b (by simp) ?_
    rw [e]
    simp [rowsOf, Value.ownBlock, eg]
  refine ⟨g, cap, e, hgb, hc 0 _ rfl, hc 1 _ rfl, hf, fun v => ?_⟩
  · have h2 := hput 0 (.int .u64 v) (by omega)
    have e2 : (fun d => if d = i then (rtF A i).set 0 (.int .u64 v) else rtF A d) = rtF (A.set (.state i) v) := funext fun d => by
      unfold rtF ASt.set
      by_cases ed : d = i
      · subst ed; simp
      · simp [ed]
    rw [e2] at h2
    exact b1 _ _ h2 rfl rfl rfl rfl

/-- Is there such a node, version, transaction? -/
def ASt.isN (A : ASt) (n : Int) : Bool := decide (1 ≤ n) && decide (n ≤ A.nN)
def ASt.isV (A : ASt) (n : Int) : Bool := decide (1 ≤ n) && A.ver (n - 1).toNat
def ASt.isT (A : ASt) (n : Int) : Bool := decide (1 ≤ n) && A.txn (n - 1).toNat

theorem isN_at {A : ASt} {n : Int} (h : A.isN n = true) : ∃ i : Nat, n = (i : Int) + 1 ∧ i < A.nN := by
  unfold ASt.isN at h; simp at h; exact ⟨(n - 1).toNat, by omega, by omega⟩
theorem isV_at {A : ASt} {n : Int} (h : A.isV n = true) : ∃ i : Nat, n = (i : Int) + 1 ∧ A.ver i = true := by
  unfold ASt.isV at h; simp only [Bool.and_eq_true, decide_eq_true_eq] at h; exact ⟨(n - 1).toNat, by omega, h.2⟩
theorem isT_at {A : ASt} {n : Int} (h : A.isT n = true) : ∃ i : Nat, n = (i : Int) + 1 ∧ A.txn i = true := by
  unfold ASt.isT at h; simp only [Bool.and_eq_true, decide_eq_true_eq] at h; exact ⟨(n - 1).toNat, by omega, h.2⟩
theorem isN_no {A : ASt} {n : Int} (h : A.isN n = false) : ∀ i : Nat, n = (i : Int) + 1 → A.nN ≤ i := by
  intro i hi; subst hi; unfold ASt.isN at h; simp at h; omega
theorem isV_no {A : ASt} {n : Int} (h : A.isV n = false) : ∀ i : Nat, n = (i : Int) + 1 → A.ver i = false := by
  intro i hi
  subst hi; unfold ASt.isV at h
  have e : ((i : Int) + 1 - 1).toNat = i := by omega
  rw [e] at h
  simp at h; exact h (by omega)
theorem isT_no {A : ASt} {n : Int} (h : A.isT n = false) : ∀ i : Nat, n = (i : Int) + 1 → A.txn i = false := by
  intro i hi
  subst hi; unfold ASt.isT at h
  have e : ((i : Int) + 1 - 1).toNat = i := by omega
  rw [e] at h
  simp at h; exact h (by omega)

set_option maxHeartbeats 1000000 in
set_option maxRecDepth 100000 in
theorem rnode_walk (h : Has o w0 w (RfP b x A fr rs)) (n : Int) :
    Calls Tryd.prog 41 #[.pointer (some ⟨b, 0, none⟩), .int .i64 n] w fun e w' => e = .returned (.bool (A.isN n)) ∧ w' = w := by
  obtain ⟨c0, _⟩ := RfP.fields h
  obtain ⟨⟨p, c, hv⟩, _⟩ := RfP.slices h
  have h9 : A.nN ≤ 9223372036854775807 := Nat.le_trans (RfP.small h).1 (by decide)
  rw [hv] at c0
  clear h hv
  unfold ASt.isN
  go_enter Tryd.func41, Tryd.ntmps41
  by_cases h1 : 1 ≤ n
  · have d1 : decide (n ≥ 1) = true := by simpa using h1
    have d2 : decide (1 ≤ n) = true := by simpa using h1
    rw [d2]
    go_wp2_with fail
    go_ret
    exact ⟨rfl, rfl⟩
  · have d1 : decide (n ≥ 1) = false := by simpa using h1
    have d2 : decide (1 ≤ n) = false := by simpa using h1
    rw [d2]
    go_wp2_with fail
    go_ret
    exact ⟨rfl, rfl⟩

set_option maxHeartbeats 1000000 in
set_option maxRecDepth 100000 in
theorem rversion_walk (h : Has o w0 w (RfP b x A fr rs)) (n : Int) :
    Calls Tryd.prog 60 #[.pointer (some ⟨b, 0, none⟩), .int .i64 n] w fun e w' => e = .returned (.bool (A.isV n)) ∧ w' = w := by
  obtain ⟨_, c1, _⟩ := RfP.fields h
  obtain ⟨_, ⟨p, c, hv⟩, _⟩ := RfP.slices h
  have h9 : A.nV ≤ 9223372036854775807 := Nat.le_trans (RfP.small h).2.1 (by decide)
  have HX := Lib.hid h
  clear h
  go_enter Tryd.func60, Tryd.ntmps60
  by_cases h1 : 1 ≤ n
  · have d1 : decide (n ≥ 1) = true := by simpa using h1
    by_cases h2 : n ≤ (A.nV : Int)
    · have d2 : decide (n ≤ (A.nV : Int)) = true := by simpa using h2
      obtain ⟨i, hi⟩ : ∃ i : Nat, n = (i : Int) + 1 := ⟨(n - 1).toNat, by omega⟩
      have hlt : i < A.nV := by omega
      obtain ⟨g, cap, e, _, _, _, _, _, cg, _⟩ := RfP.ver HX.out hlt
      rw [e] at c1
      have hb : 0 ≤ (i : Int) ∧ (i : Int) < (A.nV : Int) := by omega
      have ev : A.isV n = !(A.V i).gone := by
        subst hi
        unfold ASt.isV ASt.ver
        rw [show ((i : Int) + 1 - 1).toNat = i by omega]
        simp [hlt]; omega
      rw [ev]
      clear hv e ev
      subst hi
      generalize (A.V i).gone = gb at *
      go_wp2_with fail
      go_ret
      exact ⟨rfl, rfl⟩
    · have d2 : decide (n ≤ (A.nV : Int)) = false := by simpa using h2
      have ev : A.isV n = false := by
        unfold ASt.isV ASt.ver; simp; omega
      rw [ev]
      rw [hv] at c1
      clear hv
      go_wp2_with fail
      go_ret
      exact ⟨rfl, rfl⟩
  · have d1 : decide (n ≥ 1) = false := by simpa using h1
    have ev : A.isV n = false := by unfold ASt.isV; simp; omega
    rw [ev]
    clear hv
    go_wp2_with fail
    go_ret
    exact ⟨rfl, rfl⟩

end Go.Proofs.YtbodobdllchmgaaDoor
