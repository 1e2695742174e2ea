/- A store, told plainly, and how it lies in memory. Plain lemmas: nothing is claimed of a program here. -/
import Derived.Test.YtbodobdllchmgaaDoorRowN
import Derived.Test.YtbodobdllchmgaaDoorOwn
namespace Go.Proofs.YtbodobdllchmgaaDoor
open Go Go.RowKit
set_option linter.unusedVariables false

/-- An arena as a part. -/
def Part.arena (b : Nat) (S : Ar) : Part := ⟨fun w fp => ArenaAt w b fp S, fun h => h.fp_lt, fun h k hn => h.kept k hn⟩
theorem Has.own {o w0 w b S} (h : Has o w0 w (.arena b S)) : OwnF o w0 w b S := h
theorem Has.ofOwn {o w0 w b S} (h : OwnF o w0 w b S) : Has o w0 w (.arena b S) := h

structure AVer where
  val : ByteArray
  begin_ : Int
  end_ : Int
  next : Int
  gone : Bool

/-- A store: nodes (head, lock), versions, transactions (state, gone), so many of each; the arena's size and steps. -/
structure ASt where
  ab : Nat
  size : Nat
  steps : Int
  nN : Nat
  nV : Nat
  nT : Nat
  N : Nat → Int × Int
  V : Nat → AVer
  T : Nat → Int × Bool

inductive Loc where
  | head (i : Nat) | lock (i : Nat) | begin_ (i : Nat) | end_ (i : Nat) | next (i : Nat) | state (i : Nat)
deriving DecidableEq

def ASt.ver (A : ASt) (i : Nat) : Bool := decide (i < A.nV) && !(A.V i).gone
def ASt.txn (A : ASt) (i : Nat) : Bool := decide (i < A.nT) && !(A.T i).2

/-- What stands in a word of the store, if it is there. -/
def ASt.at_ (A : ASt) : Loc → Option Int
  | .head i => if i < A.nN then some (A.N i).1 else none
  | .lock i => if i < A.nN then some (A.N i).2 else none
  | .begin_ i => if A.ver i then some (A.V i).begin_ else none
  | .end_ i => if A.ver i then some (A.V i).end_ else none
  | .next i => if A.ver i then some (A.V i).next else none
  | .state i => if A.txn i then some (A.T i).1 else none

/-- Another number in a word. -/
def ASt.set (A : ASt) (l : Loc) (v : Int) : ASt :=
  match l with
  | .head i => { A with N := fun j => if j = i then (v, (A.N j).2) else A.N j }
  | .lock i => { A with N := fun j => if j = i then ((A.N j).1, v) else A.N j }
  | .begin_ i => { A with V := fun j => if j = i then { A.V j with begin_ := v } else A.V j }
  | .end_ i => { A with V := fun j => if j = i then { A.V j with end_ := v } else A.V j }
  | .next i => { A with V := fun j => if j = i then { A.V j with next := v } else A.V j }
  | .state i => { A with T := fun j => if j = i then (v, (A.T j).2) else A.T j }

def ASt.step (A : ASt) : ASt := { A with steps := wrap64 (A.steps + 1) }

theorem ASt.gone_set (A : ASt) (l : Loc) (v : Int) (j : Nat) : ((A.set l v).V j).gone = (A.V j).gone := by
  cases l <;> simp only [ASt.set] <;> split <;> rfl
theorem ASt.nV_set (A : ASt) (l : Loc) (v : Int) : (A.set l v).nV = A.nV := by cases l <;> rfl
theorem ASt.nN_set (A : ASt) (l : Loc) (v : Int) : (A.set l v).nN = A.nN := by cases l <;> rfl
theorem ASt.nT_set (A : ASt) (l : Loc) (v : Int) : (A.set l v).nT = A.nT := by cases l <;> rfl
theorem ASt.size_set (A : ASt) (l : Loc) (v : Int) : (A.set l v).size = A.size := by cases l <;> rfl
theorem ASt.ab_set (A : ASt) (l : Loc) (v : Int) : (A.set l v).ab = A.ab := by cases l <;> rfl
theorem ASt.steps_set (A : ASt) (l : Loc) (v : Int) : (A.set l v).steps = A.steps := by cases l <;> rfl
theorem ASt.val_set (A : ASt) (l : Loc) (v : Int) (j : Nat) : ((A.set l v).V j).val = (A.V j).val := by
  cases l <;> simp only [ASt.set] <;> split <;> rfl
theorem ASt.goneT_set (A : ASt) (l : Loc) (v : Int) (j : Nat) : ((A.set l v).T j).2 = (A.T j).2 := by
  cases l <;> simp only [ASt.set] <;> split <;> rfl

theorem ASt.ver_set (A : ASt) (l : Loc) (v : Int) (j : Nat) : (A.set l v).ver j = A.ver j := by
  unfold ASt.ver; rw [A.nV_set, A.gone_set]
theorem ASt.txn_set (A : ASt) (l : Loc) (v : Int) (j : Nat) : (A.set l v).txn j = A.txn j := by
  unfold ASt.txn; rw [A.nT_set, A.goneT_set]

theorem ASt.at_set (A : ASt) (l l' : Loc) (v : Int) : (A.set l v).at_ l' = if l' = l then (A.at_ l').map (fun _ => v) else A.at_ l' := by
  cases l' <;> simp only [ASt.at_, ASt.ver_set, ASt.txn_set, ASt.nN_set] <;> cases l <;> simp only [ASt.set, reduceCtorEq, if_false, Loc.head.injEq, Loc.lock.injEq, Loc.begin_.injEq, Loc.end_.injEq, Loc.next.injEq, Loc.state.injEq]
  all_goals (rename_i i j; by_cases e : i = j <;> (try simp [e]) <;> (try split) <;> (try simp_all))

def cntB (p : Nat → Bool) : Nat → Nat
  | 0 => 0
  | n + 1 => cntB p n + if p n = true then 1 else 0

/-- How many cells are taken. -/
def ASt.used (A : ASt) : Nat := 2 * A.nN + 3 * cntB (fun i => !(A.V i).gone) A.nV + cntB (fun i => !(A.T i).2) A.nT

theorem ASt.used_set (A : ASt) (l : Loc) (v : Int) : (A.set l v).used = A.used := by
  unfold ASt.used
  rw [A.nN_set, A.nV_set, A.nT_set]
  simp only [A.gone_set, A.goneT_set]

/-- Which cell a word has. -/
structure Cells where
  n : Nat → Nat × Nat
  v : Nat → Nat × Nat × Nat
  t : Nat → Nat

def Cells.of (C : Cells) : Loc → Nat
  | .head i => (C.n i).1
  | .lock i => (C.n i).2
  | .begin_ i => (C.v i).1
  | .end_ i => (C.v i).2.1
  | .next i => (C.v i).2.2
  | .state i => C.t i

structure StRep (S : Ar) (C : Cells) (A : ASt) : Prop where
  size : S.size = A.size
  big : A.size ≤ 65536
  steps : S.steps = A.steps
  has : ∀ l v, A.at_ l = some v → S.get (C.of l) = some v
  inj : ∀ l l', (A.at_ l).isSome → (A.at_ l').isSome → C.of l = C.of l' → l = l'
  count : cnt S.get S.size = A.used
  word : ∀ l v, A.at_ l = some v → 0 ≤ v ∧ v < 18446744073709551616
  headLe : ∀ i v, A.at_ (.head i) = some v → v ≤ A.nV
  nextLe : ∀ i v, A.at_ (.next i) = some v → v ≤ i

theorem StRep.step {S : Ar} {C : Cells} {A : ASt} (h : StRep S C A) : StRep S.step C A.step :=
  ⟨h.size, h.big, by show wrap64 (S.steps + 1) = wrap64 (A.steps + 1); rw [h.steps], h.has, h.inj, h.count, h.word, h.headLe, h.nextLe⟩

theorem cnt_some {f g : Nat → Option Int} (n : Nat) (h : ∀ d, (f d).isSome = (g d).isSome) : cnt f n = cnt g n := by
  induction n with
  | zero => rfl
  | succ n ih => unfold cnt; rw [ih, h n]

theorem StRep.put {S : Ar} {C : Cells} {A : ASt} (h : StRep S C A) {l : Loc} {u v : Int} (hl : A.at_ l = some u) (hv : 0 ≤ v ∧ v < 18446744073709551616)
    (hh : ∀ i, l = .head i → v ≤ A.nV) (hx : ∀ i, l = .next i → v ≤ i) : StRep (S.put (C.of l) v) C (A.set l v) := by
  have key : ∀ l' v', (A.set l v).at_ l' = some v' → (l' = l ∧ v' = v) ∨ (l' ≠ l ∧ A.at_ l' = some v') := by
    intro l' v' h'
    rw [A.at_set] at h'
    by_cases e : l' = l
    · rw [if_pos e] at h'
      cases hc : A.at_ l' with
      | none => rw [hc] at h'; cases h'
      | some x => rw [hc] at h'; exact .inl ⟨e, by simpa using h'.symm⟩
    · rw [if_neg e] at h'; exact .inr ⟨e, h'⟩
  have isS : ∀ l', ((A.set l v).at_ l').isSome = (A.at_ l').isSome := fun l' => by
    rw [A.at_set]; split <;> simp
  have hget : S.get (C.of l) = some u := h.has l u hl
  refine ⟨by rw [A.size_set]; exact h.size, by rw [A.size_set]; exact h.big, by rw [A.steps_set]; exact h.steps, fun l' v' h' => ?_, fun a b ha hb e => h.inj a b (by rw [← isS]; exact ha) (by rw [← isS]; exact hb) e, ?_, fun l' v' h' => ?_, fun i v' h' => ?_, fun i v' h' => ?_⟩
  · show (if C.of l' = C.of l then some v else S.get (C.of l')) = some v'
    rcases key l' v' h' with ⟨rfl, rfl⟩ | ⟨hne, h''⟩
    · rw [if_pos rfl]
    · rw [if_neg fun e => hne (h.inj _ _ (by rw [h'']; rfl) (by rw [hl]; rfl) e)]
      exact h.has l' v' h''
  · rw [A.used_set, ← h.count]
    refine cnt_some _ fun d => ?_
    show (if d = C.of l then some v else S.get d).isSome = _
    by_cases e : d = C.of l
    · rw [if_pos e, e, hget]; rfl
    · rw [if_neg e]
  · rcases key l' v' h' with ⟨rfl, rfl⟩ | ⟨_, h''⟩
    · exact hv
    · exact h.word l' v' h''
  · rw [A.nV_set]
    rcases key _ v' h' with ⟨e, rfl⟩ | ⟨_, h''⟩
    · exact hh i e.symm
    · exact h.headLe i v' h''
  · rcases key _ v' h' with ⟨e, rfl⟩ | ⟨_, h''⟩
    · exact hx i e.symm
    · exact h.nextLe i v' h''

def nodeF (C : Cells) (i : Nat) : List Value := [.int .i64 (C.n i).1, .int .i64 (C.n i).2]
def verF (C : Cells) (A : ASt) (i : Nat) : List Value := [.string (A.V i).val, .int .i64 (C.v i).1, .int .i64 (C.v i).2.1, .int .i64 (C.v i).2.2, .bool (A.V i).gone]
def txnF (C : Cells) (A : ASt) (i : Nat) : List Value := [.int .i64 (C.t i), .bool (A.T i).2]

/-- The store's own block. -/
def stF (ab : Nat) (nv vv tv : Value) (i : Nat) : Value := if i = 0 then .pointer (some ⟨ab, 0, none⟩) else if i = 1 then nv else if i = 2 then vv else tv

structure StIx where
  ab : Nat
  nv : Value
  vv : Value
  tv : Value
  S : Ar
  C : Cells

noncomputable def StRows (x : StIx) (A : ASt) : Part :=
  (Part.rows 96 2 x.nv A.nN (nodeF x.C)).sep ((Part.rows 103 5 x.vv A.nV (verF x.C A)).sep (.rows 148 2 x.tv A.nT (txnF x.C A)))

noncomputable def StP (b : Nat) (x : StIx) (A : ASt) : Part :=
  ((Part.blk b 4 94 (stF x.ab x.nv x.vv x.tv)).sep (.when (x.ab = A.ab) (.arena x.ab x.S))).sep (StRows x A)

/-- A store in memory. -/
noncomputable def Part.store (b : Nat) (A : ASt) : Part := .ex fun x : StIx => .when (StRep x.S x.C A) (StP b x A)

theorem Has.stOpen {o : List Nat} {w0 w : World} {b : Nat} {A : ASt} (h : Has o w0 w (.store b A)) : ∃ x : StIx, StRep x.S x.C A ∧ Has o w0 w (StP b x A) := by
  obtain ⟨x, h⟩ := h.exOut
  exact ⟨x, h.whenOut⟩
theorem Has.stShut {o : List Nat} {w0 w : World} {b : Nat} {A : ASt} {x : StIx} (hr : StRep x.S x.C A) (h : Has o w0 w (StP b x A)) : Has o w0 w (.store b A) :=
  Has.exIn x (Has.whenIn hr h)
end Go.Proofs.YtbodobdllchmgaaDoor
