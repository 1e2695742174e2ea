/- The plain law of StoreBack: a node that is filled, cut and dropped has as many cells as before. Nothing is claimed of a program here. -/
import Derived.Test.YtlaffmdflleeeaaDoorPlainApart11
import Derived.Test.YtlaffmdflleeeaaDoorStoreForget
namespace Go.Proofs.YtlaffmdflleeeaaDoor
open Go Go.RowKit
set_option linter.unusedVariables false

theorem goneV_used {A : ASt} {i : Nat} (hv : A.ver i = true) : (A.goneV i).used + 3 = A.used := by
  have hg : (A.V i).gone = false := by unfold ASt.ver at hv; simp at hv; exact hv.2
  have h := cntB_gone (A := A) A.nV (ver_lt hv) hg
  unfold ASt.used
  show 2 * A.nN + 3 * cntB (fun j => !((A.goneV i).V j).gone) A.nV + cntB (fun j => !(A.T j).2) A.nT + 3 = _
  omega

theorem goneAll_used {A : ASt} (l : List Nat) (hd : l.Pairwise (· > ·)) (h1 : ∀ v ∈ l, 1 ≤ v ∧ A.ver (v - 1) = true) : (A.goneAll l).used + 3 * l.length = A.used := by
  unfold ASt.goneAll
  induction l generalizing A with
  | nil => rfl
  | cons c cs ih =>
    rw [List.pairwise_cons] at hd
    have hc := h1 c (List.mem_cons_self ..)
    have := ih (A := A.goneV (c - 1)) hd.2 (fun v hv => by
      have h2 := h1 v (List.mem_cons_of_mem _ hv)
      have h3 := hd.1 v hv
      refine ⟨h2.1, ?_⟩
      rw [goneV_ver, h2.2]
      simp; omega)
    have hu := goneV_used hc.2
    rw [List.length_cons]
    show ((cs.foldl (fun A v => A.goneV (v - 1)) (A.goneV (c - 1))).used) + _ = _
    omega

theorem goneT_used {A : ASt} {i : Nat} (hv : A.txn i = true) : (A.goneT i).used + 1 = A.used := by
  have hg : (A.T i).2 = false := by unfold ASt.txn at hv; simp at hv; exact hv.2
  have h := cntB_goneT (A := A) A.nT (txn_lt hv) hg
  unfold ASt.used
  show 2 * A.nN + 3 * cntB (fun j => !(A.V j).gone) A.nV + cntB (fun j => !((A.goneT i).T j).2) A.nT + 1 = _
  omega

theorem addTxn_txn (A : ASt) (st : Int) : (A.addTxn st).txn A.nT = true := by unfold ASt.txn ASt.addTxn; simp

theorem addTxn_used (A : ASt) (st : Int) : (A.addTxn st).used = A.used + 1 := by
  have h := goneT_used (A := A.addTxn st) (addTxn_txn A st)
  have e : ((A.addTxn st).goneT A.nT).used = A.used := by
    have same : ∀ n, n ≤ A.nT → cntB (fun j => !(((A.addTxn st).goneT A.nT).T j).2) n = cntB (fun j => !(A.T j).2) n := by
      intro n
      induction n with
      | zero => intro _; rfl
      | succ n ih =>
        intro hn
        unfold cntB
        rw [ih (by omega)]
        simp only [ASt.goneT, ASt.addTxn, if_neg (show ¬ n = A.nT by omega)]
    unfold ASt.used
    show 2 * A.nN + 3 * cntB (fun j => !(A.V j).gone) A.nV + cntB (fun j => !(((A.addTxn st).goneT A.nT).T j).2) (A.nT + 1) = _
    rw [show ∀ p : Nat → Bool, cntB p (A.nT + 1) = cntB p A.nT + if p A.nT = true then 1 else 0 from fun _ => rfl, same _ (Nat.le_refl _)]
    simp [ASt.goneT]
  omega

/-- The number of the j-th version from B on; none: 0. -/
def bh (B j : Nat) : Int := if j = 0 then 0 else (B : Int) + j
def bdn (B : Nat) : Nat → List Nat
  | 0 => []
  | h + 1 => (B + h + 1) :: bdn B h

theorem bdn_len (B h : Nat) : (bdn B h).length = h := by
  induction h with
  | zero => rfl
  | succ h ih => unfold bdn; rw [List.length_cons, ih]
theorem bdn_mem {B h v : Nat} (hv : v ∈ bdn B h) : ∃ j, j < h ∧ v = B + j + 1 := by
  induction h with
  | zero => simp [bdn] at hv
  | succ h ih =>
    unfold bdn at hv
    rcases List.mem_cons.1 hv with rfl | hv
    · exact ⟨h, by omega, rfl⟩
    · obtain ⟨j, h1, h2⟩ := ih hv
      exact ⟨j, by omega, h2⟩
theorem bdn_pair (B h : Nat) : (bdn B h).Pairwise (· > ·) := by
  induction h with
  | zero => exact List.Pairwise.nil
  | succ h ih =>
    unfold bdn
    refine List.pairwise_cons.2 ⟨fun v hv => ?_, ih⟩
    obtain ⟨j, h1, h2⟩ := bdn_mem hv
    omega

/-- A store whose newest node p has just the versions B .. B + v - 1. -/
structure BkSt (p B v : Nat) (A : ASt) : Prop where
  nN : A.nN = p + 1
  nV : A.nV = B + v
  hd : A.at_ (.head p) = some (bh B v)
  nx : ∀ j, j < v → A.at_ (.next (B + j)) = some (bh B j)

theorem BkSt.chain {p B v : Nat} {A : ASt} (h : BkSt p B v A) (t f : Nat) (ht : t ≤ v) (hf : t ≤ f) : chainF A f (bh B t) = bdn B t := by
  induction t generalizing f with
  | zero => exact chain_zero A f _ (by unfold bh; simp)
  | succ t ih =>
    obtain ⟨f, rfl⟩ : ∃ f', f = f' + 1 := ⟨f - 1, by omega⟩
    obtain ⟨hv, hn⟩ := next_in (h.nx t (by omega))
    rw [show bh B (t + 1) = ((B + t : Nat) : Int) + 1 by rw [bh, if_neg (by omega)]; omega, chainF_go hv, hn, ih f (by omega) (by omega)]
    rfl

theorem BkSt.nxOk {p B v : Nat} {A : ASt} (h : BkSt p B v A) : A.nxOk (bh B v) := by
  by_cases e : v = 0
  · exact .inl (if_pos e)
  · refine .inr ⟨B + (v - 1), ?_, at_next (h.nx (v - 1) (by omega))⟩
    rw [bh, if_neg e]; omega

theorem BkSt.grow {p B v : Nat} {A : ASt} (h : BkSt p B v A) (st : Int) (val : ByteArray) (bg : Int) :
    BkSt p B (v + 1) ((A.addVer st val bg (bh B v)).step.set (.head p) ((B : Int) + (v : Int) + 1)) := by
  obtain ⟨v1, b1, e1, n1⟩ := addVer_new A st val bg (bh B v)
  rw [h.nV] at n1
  refine ⟨?_, ?_, ?_, fun j hj => ?_⟩
  · rw [ASt.nN_set]; exact h.nN
  · rw [ASt.nV_set]; show A.nV + 1 = _; rw [h.nV]; omega
  · rw [show bh B (v + 1) = (B : Int) + (v : Int) + 1 by rw [bh, if_neg (by omega)]; omega]
    exact set_here (v := bh B v) (addVer_at _ _ _ _ _ _ _ h.hd)
  · have h5 : (A.addVer st val bg (bh B v)).at_ (.next (B + j)) = some (bh B j) := by
      by_cases e : j = v
      · subst e; exact n1
      · exact addVer_at _ _ _ _ _ _ _ (h.nx j (by omega))
    exact set_other (l := .head p) (u := (B : Int) + (v : Int) + 1) h5 (by simp)
theorem BkSt.growUsed {p : Nat} {A : ASt} (st : Int) (val : ByteArray) (bg nx u : Int) : ((A.addVer st val bg nx).step.set (.head p) u).used = A.used + 3 ∧ ((A.addVer st val bg nx).step.set (.head p) u).size = A.size ∧ ((A.addVer st val bg nx).step.set (.head p) u).ab = A.ab ∧ ((A.addVer st val bg nx).step.set (.head p) u).nT = A.nT := by
  refine ⟨?_, by rw [ASt.size_set]; rfl, by rw [ASt.ab_set]; rfl, by rw [ASt.nT_set]; rfl⟩
  rw [ASt.used_set]
  exact addVer_used A st val bg nx

theorem goneAll_same (A : ASt) (l : List Nat) : (A.goneAll l).size = A.size ∧ (A.goneAll l).ab = A.ab ∧ (A.goneAll l).nT = A.nT := by
  unfold ASt.goneAll
  induction l generalizing A with
  | nil => exact ⟨rfl, rfl, rfl⟩
  | cons c cs ih => exact ih (A.goneV (c - 1))

/-- Behind Cut and Drop. -/
theorem BkSt.end_ {p B q : Nat} {A : ASt} (h : BkSt p B (q + 1) A) (s1 s2 : Int) :
    ((((A.at s1).set (.next (B + q)) 0).goneAll (bdn B q)).at_ (.head p) = some (((B + q : Nat) : Int) + 1)) ∧
    ((((A.at s1).set (.next (B + q)) 0).goneAll (bdn B q)).at_ (.next (B + q)) = some 0) ∧
    ((((((A.at s1).set (.next (B + q)) 0).goneAll (bdn B q)).at s2).set (.head p) 0).goneV (B + q)).used + 3 * (q + 1) = A.used := by
  have hnx : ((A.at s1).set (.next (B + q)) 0).at_ (.next (B + q)) = some 0 := set_here (A := A.at s1) (v := bh B q) (h.nx q (by omega))
  have hlive : ∀ j, j < q + 1 → ((A.at s1).set (.next (B + q)) 0).ver (B + j) = true := fun j hj => by
    rw [ASt.ver_set]; exact at_next (h.nx j hj)
  have hu := goneAll_used (A := (A.at s1).set (.next (B + q)) 0) (bdn B q) (bdn_pair B q) (fun v hv => by
    obtain ⟨j, h1, rfl⟩ := bdn_mem hv
    exact ⟨by omega, hlive j (by omega)⟩)
  have hkeep : ∀ i, (Loc.next (B + q)).verOf = some i → ∀ c ∈ bdn B q, c - 1 ≠ i := fun i hi c hc => by
    obtain ⟨j, h1, rfl⟩ := bdn_mem hc
    simp [Loc.verOf] at hi; omega
  have h2 : (((A.at s1).set (.next (B + q)) 0).goneAll (bdn B q)).at_ (.next (B + q)) = some 0 := goneAll_keep _ hnx hkeep
  refine ⟨?_, h2, ?_⟩
  · refine goneAll_keep _ (set_other (A := A.at s1) (l := .next (B + q)) (u := 0) (v := ((B + q : Nat) : Int) + 1) ?_ (by simp)) (fun i hi => by simp [Loc.verOf] at hi)
    have h3 := h.hd
    rw [show bh B (q + 1) = ((B + q : Nat) : Int) + 1 by rw [bh, if_neg (by omega)]; omega] at h3
    exact h3
  · have hv : (((((A.at s1).set (.next (B + q)) 0).goneAll (bdn B q)).at s2).set (.head p) 0).ver (B + q) = true := by
      rw [ASt.ver_set]; exact at_next h2
    have h4 := goneV_used hv
    rw [ASt.used_set] at h4
    have h5 : ((((A.at s1).set (.next (B + q)) 0).goneAll (bdn B q)).at s2).used = (((A.at s1).set (.next (B + q)) 0).goneAll (bdn B q)).used := rfl
    rw [h5] at h4
    rw [ASt.used_set, bdn_len] at hu
    have h6 : (A.at s1).used = A.used := rfl
    omega

theorem BkSt.endNum {p B q : Nat} {A : ASt} (h : BkSt p B (q + 1) A) (s1 s2 : Int) :
    let A' := (((((A.at s1).set (.next (B + q)) 0).goneAll (bdn B q)).at s2).set (.head p) 0).goneV (B + q)
    A'.nN = p + 1 ∧ A'.nV = B + (q + 1) ∧ A'.size = A.size ∧ A'.ab = A.ab ∧ A'.nT = A.nT := by
  intro A'
  obtain ⟨g1, g2, g3⟩ := goneAll_same ((A.at s1).set (.next (B + q)) 0) (bdn B q)
  refine ⟨?_, ?_, ?_, ?_, ?_⟩
  · show (ASt.set _ _ _).nN = _
    rw [ASt.nN_set]; show (ASt.goneAll _ _).nN = _; rw [goneAll_nN, ASt.nN_set]; exact h.nN
  · show (ASt.set _ _ _).nV = _
    rw [ASt.nV_set]; show (ASt.goneAll _ _).nV = _; rw [goneAll_nV, ASt.nV_set]; exact h.nV
  · show (ASt.set _ _ _).size = _
    rw [ASt.size_set]; show (ASt.goneAll _ _).size = _; rw [g1, ASt.size_set]; rfl
  · show (ASt.set _ _ _).ab = _
    rw [ASt.ab_set]; show (ASt.goneAll _ _).ab = _; rw [g2, ASt.ab_set]; rfl
  · show (ASt.set _ _ _).nT = _
    rw [ASt.nT_set]; show (ASt.goneAll _ _).nT = _; rw [g3, ASt.nT_set]; rfl

/-- A node more. -/
theorem BkSt.start {p : Nat} {A : ASt} (h : A.nN = p) (st : Int) : BkSt p A.nV 0 (A.addNode st) := by
  refine ⟨by show A.nN + 1 = _; rw [h], rfl, ?_, fun j hj => by omega⟩
  show (if p < A.nN + 1 then some ((if p = A.nN then ((0 : Int), (0 : Int)) else A.N p)).1 else none) = _
  rw [if_pos (by omega), if_pos h.symm]; rfl
theorem addNode_used (A : ASt) (st : Int) : (A.addNode st).used = A.used + 2 := by
  unfold ASt.used ASt.addNode; simp only; omega
end Go.Proofs.YtlaffmdflleeeaaDoor
