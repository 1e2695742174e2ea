/- A hash table, told plainly, and how it lies in memory. Plain lemmas: nothing is claimed of a program here. -/
import Derived.Test.YtmldighidbfhhaaDoorCellRep
namespace Go.Proofs.YtmldighidbfhhaaDoor
open Go Go.RowKit
set_option linter.unusedVariables false

structure AEnt where
  key : ByteArray
  ref : Int
  nxt : Int
  gone : Bool

/-- A table: the arena's block, size and steps; the buckets' words; the entries. -/
structure AHt where
  ab : Nat
  size : Nat
  steps : Int
  nB : Nat
  H : Nat → Int
  nE : Nat
  E : Nat → AEnt

inductive HLoc where
  | head (i : Nat) | next (i : Nat)
deriving DecidableEq

def AHt.at_ (T : AHt) : HLoc → Option Int
  | .head i => if i < T.nB then some (T.H i) else none
  | .next i => if i < T.nE ∧ (T.E i).gone = false then some (T.E i).nxt else none

def AHt.set (T : AHt) (l : HLoc) (v : Int) : AHt :=
  match l with
  | .head i => { T with H := fun j => if j = i then v else T.H j }
  | .next i => { T with E := fun j => if j = i then { T.E j with nxt := v } else T.E j }

def AHt.step (T : AHt) : AHt := { T with steps := wrap64 (T.steps + 1) }
def AHt.used (T : AHt) : Nat := T.nB + cntB (fun i => !(T.E i).gone) T.nE

theorem AHt.gone_set (T : AHt) (l : HLoc) (v : Int) (j : Nat) : ((T.set l v).E j).gone = (T.E j).gone := by
  cases l <;> simp only [AHt.set] <;> split <;> rfl
theorem AHt.key_set (T : AHt) (l : HLoc) (v : Int) (j : Nat) : ((T.set l v).E j).key = (T.E j).key := by
  cases l <;> simp only [AHt.set] <;> split <;> rfl
theorem AHt.ref_set (T : AHt) (l : HLoc) (v : Int) (j : Nat) : ((T.set l v).E j).ref = (T.E j).ref := by
  cases l <;> simp only [AHt.set] <;> split <;> rfl
theorem AHt.nB_set (T : AHt) (l : HLoc) (v : Int) : (T.set l v).nB = T.nB := by cases l <;> rfl
theorem AHt.nE_set (T : AHt) (l : HLoc) (v : Int) : (T.set l v).nE = T.nE := by cases l <;> rfl
theorem AHt.used_set (T : AHt) (l : HLoc) (v : Int) : (T.set l v).used = T.used := by
  unfold AHt.used
  rw [T.nB_set, T.nE_set]
  simp only [T.gone_set]

theorem AHt.at_set (T : AHt) (l l' : HLoc) (v : Int) (h : (T.at_ l).isSome) : (T.set l v).at_ l' = if l' = l then some v else T.at_ l' := by
  cases l with
  | head i =>
    cases l' with
    | head j =>
      by_cases e : j = i
      · subst e
        have : j < T.nB := by simp only [AHt.at_] at h; split at h <;> simp_all
        simp [AHt.at_, AHt.set, this]
      · simp [AHt.at_, AHt.set, e]
    | next j => rw [if_neg (by simp)]; rfl
  | next i =>
    cases l' with
    | head j => rw [if_neg (by simp)]; rfl
    | next j =>
      by_cases e : j = i
      · subst e
        have : j < T.nE ∧ (T.E j).gone = false := by simp only [AHt.at_] at h; split at h <;> simp_all
        simp [AHt.at_, AHt.set, this]
      · simp [AHt.at_, AHt.set, e]

/-- One more entry. -/
def AHt.add (T : AHt) (key : ByteArray) (ref : Int) : AHt := { T with nE := T.nE + 1, E := fun j => if j = T.nE then ⟨key, ref, 0, false⟩ else T.E j }
/-- An entry's cell is given back. -/
def AHt.free (T : AHt) (i : Nat) : AHt := { T with E := fun j => if j = i then { T.E j with gone := true } else T.E j }
/-- One more bucket. -/
def AHt.bucket (T : AHt) : AHt := { T with nB := T.nB + 1, H := fun j => if j = T.nB then 0 else T.H j }

theorem AHt.at_add (T : AHt) (key : ByteArray) (ref : Int) (l : HLoc) : (T.add key ref).at_ l = if l = .next T.nE then some 0 else T.at_ l := by
  cases l with
  | head j => rw [if_neg (by simp)]; rfl
  | next j =>
    by_cases e : j = T.nE
    · subst e; simp [AHt.at_, AHt.add]
    · have e2 : (j < T.nE + 1) ↔ (j < T.nE) := by omega
      simp [AHt.at_, AHt.add, e, e2]
theorem AHt.at_free (T : AHt) (i : Nat) (l : HLoc) : (T.free i).at_ l = if l = .next i then none else T.at_ l := by
  cases l with
  | head j => rw [if_neg (by simp)]; rfl
  | next j => by_cases e : j = i <;> simp [AHt.at_, AHt.free, e]
theorem AHt.at_bucket (T : AHt) (l : HLoc) : T.bucket.at_ l = if l = .head T.nB then some 0 else T.at_ l := by
  cases l with
  | next j => rw [if_neg (by simp)]; rfl
  | head j =>
    by_cases e : j = T.nB
    · subst e; simp [AHt.at_, AHt.bucket]
    · have e2 : (j < T.nB + 1) ↔ (j < T.nB) := by omega
      simp [AHt.at_, AHt.bucket, e, e2]
theorem AHt.used_add (T : AHt) (key : ByteArray) (ref : Int) : (T.add key ref).used = T.used + 1 := by
  show T.nB + cntB _ (T.nE + 1) = _
  unfold cntB
  rw [cntB_congr (q := fun i => !(T.E i).gone) T.nE fun i hi => by simp only [AHt.add, if_neg (show ¬ i = T.nE by omega)]]
  simp only [AHt.add, AHt.used]
  simp; omega
theorem AHt.used_free (T : AHt) (i : Nat) (hi : i < T.nE) (hg : (T.E i).gone = false) : T.used = (T.free i).used + 1 := by
  show T.nB + _ = T.nB + _ + 1
  rw [cntB_one (p := fun j => !(T.E j).gone) (q := fun j => !((T.free i).E j).gone) hi (by simp [hg]) (by simp [AHt.free]) fun j _ hne => by simp [AHt.free, hne]]
  rfl
theorem AHt.used_bucket (T : AHt) : T.bucket.used = T.used + 1 := by
  show T.nB + 1 + _ = T.nB + _ + 1
  have : cntB (fun i => !(T.bucket.E i).gone) T.bucket.nE = cntB (fun i => !(T.E i).gone) T.nE := rfl
  omega

/-- Which cell a word has. -/
structure HCells where
  h : Nat → Nat
  e : Nat → Nat
def HCells.of (C : HCells) : HLoc → Nat
  | .head i => C.h i
  | .next i => C.e i

structure HtRep (S : Ar) (C : HCells) (T : AHt) : Prop where
  size : S.size = T.size
  big : T.size ≤ 65536
  steps : S.steps = T.steps
  rep : CRep S C.of T.at_ T.used
  small : ∀ l v, T.at_ l = some v → v ≤ T.nE

theorem HtRep.step {S : Ar} {C : HCells} {T : AHt} (h : HtRep S C T) : HtRep S.step C T.step :=
  ⟨h.size, h.big, by show wrap64 (S.steps + 1) = wrap64 (T.steps + 1); rw [h.steps], h.rep.step, h.small⟩

theorem HtRep.put {S : Ar} {C : HCells} {T : AHt} (h : HtRep S C T) {l : HLoc} {u v : Int} (hl : T.at_ l = some u) (h0 : 0 ≤ v) (h1 : v ≤ T.nE) (h9 : (T.nE : Int) < 18446744073709551616) : HtRep (S.put (C.of l) v) C (T.set l v) := by
  have e : ∀ l', (T.set l v).at_ l' = if l' = l then some v else T.at_ l' := fun l' => T.at_set l l' v (by rw [hl]; rfl)
  refine ⟨?_, ?_, ?_, ?_, fun l' v' h' => ?_⟩
  · rw [show (T.set l v).size = T.size by cases l <;> rfl]; exact h.size
  · rw [show (T.set l v).size = T.size by cases l <;> rfl]; exact h.big
  · rw [show (T.set l v).steps = T.steps by cases l <;> rfl]; exact h.steps
  · rw [T.used_set]
    exact (h.rep.put hl ⟨h0, by omega⟩).congr e fun _ => rfl
  · rw [T.nE_set]
    rw [e] at h'
    by_cases e2 : l' = l
    · rw [if_pos e2] at h'; cases h'; exact h1
    · rw [if_neg e2] at h'; exact h.small l' v' h'

theorem HtRep.add {S : Ar} {C : HCells} {T : AHt} (h : HtRep S C T) {c : Nat} (hc : c < S.size) (hg : S.get c = none) (key : ByteArray) (ref : Int) :
    HtRep (S.put c 0) { C with e := fun j => if j = T.nE then c else C.e j } (T.add key ref) := by
  refine ⟨h.size, h.big, h.steps, ?_, fun l' v' h' => ?_⟩
  · rw [T.used_add]
    refine (h.rep.take (l := .next T.nE) (v := 0) hc hg ?_ ⟨by omega, by omega⟩).congr (T.at_add key ref) fun l => ?_
    · simp [AHt.at_]
    · cases l with
      | head j => simp [HCells.of]
      | next j => by_cases e : j = T.nE <;> simp [HCells.of, e]
  · rw [T.at_add] at h'
    by_cases e2 : l' = .next T.nE
    · rw [if_pos e2] at h'; cases h'; exact Int.natCast_nonneg _
    · rw [if_neg e2] at h'
      have := h.small l' v' h'
      show v' ≤ ((T.nE + 1 : Nat) : Int)
      omega

theorem HtRep.free {S : Ar} {C : HCells} {T : AHt} (h : HtRep S C T) {i : Nat} {u : Int} (hl : T.at_ (.next i) = some u) : HtRep (S.drop (C.e i)) C (T.free i) := by
  have hi : i < T.nE ∧ (T.E i).gone = false := by
    simp only [AHt.at_] at hl; split at hl
    · assumption
    · cases hl
  refine ⟨h.size, h.big, h.steps, ?_, fun l' v' h' => ?_⟩
  · have := h.rep.drop hl
    rw [T.used_free i hi.1 hi.2, Nat.add_sub_cancel] at this
    exact this.congr (T.at_free i) fun _ => rfl
  · rw [T.at_free] at h'
    by_cases e2 : l' = .next i
    · rw [if_pos e2] at h'; cases h'
    · rw [if_neg e2] at h'; exact h.small l' v' h'

theorem HtRep.bucket {S : Ar} {C : HCells} {T : AHt} (h : HtRep S C T) {c : Nat} (hc : c < S.size) (hg : S.get c = none) :
    HtRep (S.put c 0) { C with h := fun j => if j = T.nB then c else C.h j } T.bucket := by
  refine ⟨h.size, h.big, h.steps, ?_, fun l' v' h' => ?_⟩
  · rw [T.used_bucket]
    refine (h.rep.take (l := .head T.nB) (v := 0) hc hg ?_ ⟨by omega, by omega⟩).congr T.at_bucket fun l => ?_
    · simp [AHt.at_]
    · cases l with
      | next j => simp [HCells.of]
      | head j => by_cases e : j = T.nB <;> simp [HCells.of, e]
  · rw [T.at_bucket] at h'
    by_cases e2 : l' = .head T.nB
    · rw [if_pos e2] at h'; cases h'; exact Int.natCast_nonneg _
    · rw [if_neg e2] at h'; exact h.small l' v' h'

def entF (C : HCells) (T : AHt) (i : Nat) : List Value := [.string (T.E i).key, .int .i64 (T.E i).ref, .int .i64 (C.e i)]
def headF (C : HCells) (i : Nat) : List Value := [.int .i64 (C.h i)]

/-- The table's own block. -/
def htF (ab : Nat) (hv ev : Value) (i : Nat) : Value := if i = 0 then .pointer (some ⟨ab, 0, none⟩) else if i = 1 then hv else ev

structure HtIx where
  hv : Value
  ev : Value
  S : Ar
  C : HCells

noncomputable def HtRows (x : HtIx) (T : AHt) : Part := (Part.rows 3 1 x.hv T.nB (headF x.C)).sep (.rows 73 3 x.ev T.nE (entF x.C T))
noncomputable def HtP (b : Nat) (x : HtIx) (T : AHt) : Part := ((Part.blk b 3 65 (htF T.ab x.hv x.ev)).sep (.arena T.ab x.S)).sep (HtRows x T)

/-- A table in memory. -/
noncomputable def Part.table (b : Nat) (T : AHt) : Part := .ex fun x : HtIx => .when (HtRep x.S x.C T) (HtP b x T)

theorem Has.htOpen {o : List Nat} {w0 w : World} {b : Nat} {T : AHt} (h : Has o w0 w (.table b T)) : ∃ x : HtIx, HtRep x.S x.C T ∧ Has o w0 w (HtP b x T) := by
  obtain ⟨x, h⟩ := h.exOut
  exact ⟨x, h.whenOut⟩
theorem Has.htShut {o : List Nat} {w0 w : World} {b : Nat} {T : AHt} {x : HtIx} (hr : HtRep x.S x.C T) (h : Has o w0 w (HtP b x T)) : Has o w0 w (.table b T) :=
  Has.exIn x (Has.whenIn hr h)
end Go.Proofs.YtmldighidbfhhaaDoor
