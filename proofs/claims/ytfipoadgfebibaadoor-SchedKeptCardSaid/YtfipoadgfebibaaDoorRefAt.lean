/- The reference's arena, told plainly; what each call does to it. -/
import Derived.Test.YtfipoadgfebibaaDoorRefNew
import Derived.Test.YtfipoadgfebibaaDoorDo
namespace Go.Proofs.YtfipoadgfebibaaDoor
open Go Go.RowKit
set_option linter.unusedVariables false

/-- The least of the first n cells that is free. -/
def lfree (get : Nat → Option Int) : Nat → Option Nat
  | 0 => none
  | n + 1 => match lfree get n with
    | some c => some c
    | none => if (get n).isNone then some n else none

theorem lfree_none {get : Nat → Option Int} {n : Nat} (h : lfree get n = none) : ∀ d, d < n → (get d).isSome = true := by
  induction n with
  | zero => intro d hd; omega
  | succ n ih =>
    intro d hd
    unfold lfree at h
    cases hl : lfree get n with
    | some c => rw [hl] at h; cases h
    | none =>
      rw [hl] at h
      simp only at h
      by_cases hdn : d = n
      · subst hdn
        cases hg : get d with
        | none => rw [hg] at h; simp at h
        | some v => rfl
      · exact ih hl d (by omega)

theorem lfree_some {get : Nat → Option Int} {n c : Nat} (h : lfree get n = some c) : c < n ∧ get c = none ∧ ∀ d, d < c → (get d).isSome = true := by
  induction n with
  | zero => cases h
  | succ n ih =>
    unfold lfree at h
    cases hl : lfree get n with
    | some c' =>
      rw [hl] at h
      simp only [Option.some.injEq] at h
      subst h
      obtain ⟨h1, h2⟩ := ih hl
      exact ⟨by omega, h2⟩
    | none =>
      rw [hl] at h
      simp only at h
      split at h
      · rename_i hg
        simp only [Option.some.injEq] at h
        subst h
        exact ⟨by omega, by simpa using hg, lfree_none hl⟩
      · cases h

def allocS (S : Ar) : Int × Int × Ar := match lfree S.get S.size with
  | some c => (c, 0, S.put c 0)
  | none => (0, 31, S)
def freeS (S : Ar) (c : Int) : Int × Ar := if 0 ≤ c ∧ (S.get c.toNat).isSome = true then (0, S.drop c.toNat) else (30, S)

structure RfInv (S : Ar) (hs : List Int) (ts : List Bool) : Prop where
  one : 1 ≤ S.size
  max : S.size ≤ 65536
  cap : hs.length ≤ S.size
  get : ∀ c : Nat, S.get c = if ts.getD c false then some (hs.getD c 0) else none

def RefAt (w : World) (b : Nat) (fp : List Nat) (S : Ar) : Prop :=
  ∃ hv tv hs ts, RfRep w b hv tv S.size hs ts S.steps ∧ fp = b :: (rowsOf hv ++ rowsOf tv) ∧ RfInv S hs ts

theorem RefAt.kept {own : List Nat} {w w' : World} {b : Nat} {fp : List Nat} {S : Ar} (h : RefAt w b fp S) (k : Kept own w w') (hn : ∀ x ∈ fp, x ∉ own) : RefAt w' b fp S := by
  obtain ⟨hv, tv, hs, ts, hr, rfl, hi⟩ := h
  exact ⟨hv, tv, hs, ts, ⟨k.blk hr.blk (hn b (by simp)), k.row hr.hrow (fun j hj => hn j (by simp [mem_rowsOf, hj])), k.row hr.trow (fun j hj => hn j (by simp [mem_rowsOf, hj])), hr.hne, hr.tne, hr.apart, hr.len, hr.few⟩, rfl, hi⟩

theorem RefAt.fp_lt {w : World} {b : Nat} {fp : List Nat} {S : Ar} (h : RefAt w b fp S) : ∀ x ∈ fp, x < w.heap.size := by
  obtain ⟨hv, tv, hs, ts, hr, rfl, hi⟩ := h
  intro x hx
  simp only [List.mem_cons, List.mem_append] at hx
  rcases hx with rfl | hx | hx
  · exact hr.blk.lt
  · exact (hr.hrow.lt x (mem_rowsOf.1 hx)).2
  · exact (hr.trow.lt x (mem_rowsOf.1 hx)).2

structure RfOp (w w' : World) (b : Nat) (fp : List Nat) (S' : Ar) : Prop where
  at_ : ∃ fp', RefAt w' b fp' S' ∧ ∀ x ∈ fp', x ∈ fp ∨ w.heap.size ≤ x
  kept : Kept fp w w'

theorem RfInv.taken {S : Ar} {hs : List Int} {ts : List Bool} (h : RfInv S hs ts) (hl : hs.length = ts.length) (c : Int) : takenR ts c = (decide (0 ≤ c) && (S.get c.toNat).isSome) := by
  unfold takenR
  rw [h.get c.toNat]
  by_cases h0 : 0 ≤ c
  · cases ht : ts.getD c.toNat false
    · simp
    · have hlt : c.toNat < ts.length := by
        refine Nat.lt_of_not_le fun hge => ?_
        rw [List.getD_eq_getElem?_getD, List.getElem?_eq_none hge] at ht
        cases ht
      simp [h0]; omega
  · simp [h0]

theorem RfInv.lt {S : Ar} {hs : List Int} {ts : List Bool} (h : RfInv S hs ts) {c : Nat} {v : Int} (hg : S.get c = some v) : c < ts.length ∧ hs.getD c 0 = v ∧ ts.getD c false = true := by
  rw [h.get c] at hg
  split at hg
  · rename_i ht
    refine ⟨?_, by simpa using hg, ht⟩
    refine Nat.lt_of_not_le fun hge => ?_
    rw [List.getD_eq_getElem?_getD, List.getElem?_eq_none hge] at ht
    cases ht
  · cases hg

end Go.Proofs.YtfipoadgfebibaaDoor
