/- A skip list, told plainly, and how it lies in memory. Plain lemmas: nothing is claimed of a program here. -/
import Derived.Test.YtpckpgdkfimapaaDoorSkipWord
import Derived.Test.YtpckpgdkfimapaaDoorSepMore
namespace Go.Proofs.YtpckpgdkfimapaaDoor
open Go Go.RowKit
set_option linter.unusedVariables false

/-- A node: its key, its word's text, what it names, its height, at each level the next one; are its cells given back? -/
structure ANd where
  key : ByteArray
  wd : ByteArray
  ref : Int
  h : Nat
  nx : Nat → Int
  gone : Bool

/-- A list: the arena's block, size and steps; the nodes. -/
structure ASk where
  ab : Nat
  size : Nat
  steps : Int
  nN : Nat
  E : Nat → ANd

abbrev SLoc := Nat × Nat
def ASk.at_ (T : ASk) (l : SLoc) : Option Int := if l.1 < T.nN ∧ (T.E l.1).gone = false ∧ l.2 < (T.E l.1).h then some ((T.E l.1).nx l.2) else none
def ASk.set (T : ASk) (l : SLoc) (v : Int) : ASk := { T with E := fun i => if i = l.1 then { T.E i with nx := fun j => if j = l.2 then v else (T.E i).nx j } else T.E i }
def ASk.step (T : ASk) : ASk := { T with steps := wrap64 (T.steps + 1) }
/-- The sum of heights of the nodes that have their cells. -/
def sumH (E : Nat → ANd) : Nat → Nat
  | 0 => 0
  | n + 1 => sumH E n + (if (E n).gone = true then 0 else (E n).h)
def ASk.used (T : ASk) : Nat := sumH T.E T.nN
theorem sumH_congr {E E' : Nat → ANd} (n : Nat) (h : ∀ i, i < n → (E' i).gone = (E i).gone ∧ (E' i).h = (E i).h) : sumH E' n = sumH E n := by
  induction n with
  | zero => rfl
  | succ n ih =>
    show sumH E' n + _ = sumH E n + _
    rw [ih fun i hi => h i (by omega), (h n (by omega)).1, (h n (by omega)).2]

theorem ASk.key_set (T : ASk) (l : SLoc) (v : Int) (i : Nat) : ((T.set l v).E i).key = (T.E i).key ∧ ((T.set l v).E i).wd = (T.E i).wd ∧ ((T.set l v).E i).ref = (T.E i).ref ∧ ((T.set l v).E i).h = (T.E i).h ∧ ((T.set l v).E i).gone = (T.E i).gone := by
  unfold ASk.set
  dsimp only
  split <;> exact ⟨rfl, rfl, rfl, rfl, rfl⟩
theorem ASk.used_set (T : ASk) (l : SLoc) (v : Int) : (T.set l v).used = T.used := sumH_congr _ fun i _ => ⟨(T.key_set l v i).2.2.2.2, (T.key_set l v i).2.2.2.1⟩
theorem ASk.at_set (T : ASk) (l l' : SLoc) (v : Int) (h : (T.at_ l).isSome) : (T.set l v).at_ l' = if l' = l then some v else T.at_ l' := by
  obtain ⟨_, _, _, k4, k5⟩ := T.key_set l v l'.1
  have hl : l.1 < T.nN ∧ (T.E l.1).gone = false ∧ l.2 < (T.E l.1).h := by
    unfold ASk.at_ at h; split at h
    · assumption
    · cases h
  unfold ASk.at_
  rw [k4, k5]
  show (if l'.1 < T.nN ∧ _ ∧ _ then some (((T.set l v).E l'.1).nx l'.2) else none) = _
  by_cases e : l' = l
  · subst e
    have e9 : ((T.set l' v).E l'.1).nx l'.2 = v := by
      unfold ASk.set
      dsimp only
      rw [if_pos rfl]
      dsimp only
      rw [if_pos rfl]
    rw [e9, if_pos rfl]
    exact if_pos hl
  · rw [if_neg e]
    have : ((T.set l v).E l'.1).nx l'.2 = (T.E l'.1).nx l'.2 := by
      unfold ASk.set
      dsimp only
      by_cases e1 : l'.1 = l.1
      · rw [if_pos e1]
        dsimp only
        rw [if_neg fun e2 => e (Prod.ext e1 e2)]
      · rw [if_neg e1]
    rw [this]; rfl

/-- One node more, with so many levels. -/
def ASk.add (T : ASk) (key wd : ByteArray) (ref : Int) (h : Nat) : ASk := { T with nN := T.nN + 1, E := fun i => if i = T.nN then ⟨key, wd, ref, h, fun _ => 0, false⟩ else T.E i }
/-- A node's cells are given back. -/
def ASk.fell (T : ASk) (i : Nat) : ASk := { T with E := fun j => if j = i then { T.E j with gone := true } else T.E j }
theorem ASk.add_old (T : ASk) (key wd : ByteArray) (ref : Int) (h : Nat) {i : Nat} (hi : i < T.nN) : (T.add key wd ref h).E i = T.E i := if_neg (by omega)
theorem ASk.add_new (T : ASk) (key wd : ByteArray) (ref : Int) (h : Nat) : (T.add key wd ref h).E T.nN = ⟨key, wd, ref, h, fun _ => 0, false⟩ := if_pos rfl
theorem ASk.used_add (T : ASk) (key wd : ByteArray) (ref : Int) (h : Nat) : (T.add key wd ref h).used = T.used + h := by
  show sumH (T.add key wd ref h).E T.nN + _ = _
  rw [T.add_new]
  rw [sumH_congr T.nN fun i hi => by rw [T.add_old key wd ref h hi]; exact ⟨rfl, rfl⟩]
  rfl
theorem ASk.at_add (T : ASk) (key wd : ByteArray) (ref : Int) (h : Nat) (l : SLoc) : (T.add key wd ref h).at_ l = if l.1 = T.nN ∧ l.2 < h then some 0 else T.at_ l := by
  unfold ASk.at_
  by_cases e : l.1 = T.nN
  · rw [e, T.add_new]
    dsimp only
    by_cases e2 : l.2 < h
    · rw [if_pos ⟨Nat.lt_succ_self _, rfl, e2⟩, if_pos ⟨rfl, e2⟩]
    · rw [if_neg (fun h => e2 h.2.2), if_neg (fun h => e2 h.2), if_neg (fun h => Nat.lt_irrefl _ h.1)]
  · rw [if_neg (c := l.1 = T.nN ∧ l.2 < h) (fun h => e h.1)]
    by_cases e2 : l.1 < T.nN
    · rw [T.add_old key wd ref h e2]
      show (if l.1 < T.nN + 1 ∧ _ then _ else _) = _
      have : (l.1 < T.nN + 1 ∧ (T.E l.1).gone = false ∧ l.2 < (T.E l.1).h) ↔ (l.1 < T.nN ∧ (T.E l.1).gone = false ∧ l.2 < (T.E l.1).h) := ⟨fun h => ⟨e2, h.2⟩, fun h => ⟨by omega, h.2⟩⟩
      simp only [this]
    · rw [if_neg (c := l.1 < T.nN ∧ _) (fun h => e2 h.1), if_neg]
      intro h
      have h1 : l.1 < T.nN + 1 := h.1
      omega

/-- Which cell a word has, of the arena's. -/
structure SkRep (S : Ar) (C : Nat → Nat → Nat) (T : ASk) : Prop where
  size : S.size = T.size
  big : T.size ≤ 65536
  steps : S.steps = T.steps
  rep : CRep S (fun l : SLoc => C l.1 l.2) T.at_ T.used
  small : ∀ l v, T.at_ l = some v → v < T.nN

variable {S : Ar} {C : Nat → Nat → Nat} {T : ASk}

theorem SkRep.step (h : SkRep S C T) : SkRep S.step C T.step :=
  ⟨h.size, h.big, by show wrap64 (S.steps + 1) = wrap64 (T.steps + 1); rw [h.steps], h.rep.step, h.small⟩
theorem SkRep.put (h : SkRep S C T) {l : SLoc} {u v : Int} (hl : T.at_ l = some u) (h0 : 0 ≤ v) (h1 : v < T.nN) (h9 : (T.nN : Int) < 18446744073709551616) : SkRep (S.put (C l.1 l.2) v) C (T.set l v) := by
  have e : ∀ l', (T.set l v).at_ l' = if l' = l then some v else T.at_ l' := fun l' => T.at_set l l' v (by rw [hl]; rfl)
  refine ⟨h.size, h.big, h.steps, ?_, fun l' v' h' => ?_⟩
  · rw [T.used_set]
    exact (h.rep.put (l := l) hl ⟨h0, by omega⟩).congr e fun _ => rfl
  · rw [e] at h'
    show v' < (T.nN : Int)
    by_cases e2 : l' = l
    · rw [if_pos e2] at h'; cases h'; exact h1
    · rw [if_neg e2] at h'; exact h.small l' v' h'

/-- A node's block. -/
def ndAt (n : ANd) (c : Nat → Nat) (k : Nat) : Value :=
  if k = 0 then .string n.key else if k < 17 then .int .u8 (wordAt n.wd (k - 1)) else if k = 17 then .int .u8 ((n.wd.size : Int) % 256) else if k = 18 then .int .i64 n.ref
  else if k < 27 then .int .i64 (if k - 19 < n.h then (c (k - 19) : Int) else 0) else .int .i64 (n.h : Nat)
def skF (ab : Nat) (nv : Value) (i : Nat) : Value := if i = 0 then .pointer (some ⟨ab, 0, none⟩) else nv
def ptrF (nb : Nat → Nat) (i : Nat) : List Value := [.pointer (some ⟨nb i, 0, none⟩)]

structure SkIx where
  nv : Value
  S : Ar
  C : Nat → Nat → Nat
  nb : Nat → Nat

noncomputable def Part.node (b : Nat) (n : ANd) (c : Nat → Nat) : Part := .blk b 28 76 (ndAt n c)
noncomputable def SkRows (x : SkIx) (T : ASk) : Part := (Part.rows 77 1 x.nv T.nN (ptrF x.nb)).sep (.all T.nN fun i => .node (x.nb i) (T.E i) (x.C i))
noncomputable def SkP (b : Nat) (x : SkIx) (T : ASk) : Part := ((Part.blk b 2 73 (skF T.ab x.nv)).sep (.arena T.ab x.S)).sep (SkRows x T)
noncomputable def Part.skl (b : Nat) (T : ASk) : Part := .ex fun x : SkIx => .when (SkRep x.S x.C T) (SkP b x T)

variable {o : List Nat} {w0 w : World} {b : Nat} {x : SkIx}

theorem Has.skOpen (h : Has o w0 w (.skl b T)) : ∃ x : SkIx, SkRep x.S x.C T ∧ Has o w0 w (SkP b x T) := by
  obtain ⟨x, h⟩ := h.exOut
  exact ⟨x, h.whenOut⟩
theorem Has.skShut (hr : SkRep x.S x.C T) (h : Has o w0 w (SkP b x T)) : Has o w0 w (.skl b T) := Has.exIn x (Has.whenIn hr h)

theorem SkP.fields (h : Has o w0 w (SkP b x T)) : w.cell? ⟨b, 0, none⟩ = some (.pointer (some ⟨T.ab, 0, none⟩)) ∧ w.cell? ⟨b, 1, none⟩ = some x.nv ∧ (∀ i, w.frozen? ⟨b, i, none⟩ = false) := by
  obtain ⟨o1, h1, _⟩ := h.left
  obtain ⟨o2, h2, _⟩ := h1.left
  refine ⟨(h2.blkAt (i := 0) (by omega)).1, (h2.blkAt (i := 1) (by omega)).1, fun i => ?_⟩
  obtain ⟨fp, ⟨hb, rfl⟩, _⟩ := h2
  exact hb.free i
theorem SkP.rows (h : Has o w0 w (SkP b x T)) : ∃ o', Has o' w w (.rows 77 1 x.nv T.nN (ptrF x.nb)) := by
  obtain ⟨o1, h1, _⟩ := h.right
  obtain ⟨o2, h2, _⟩ := h1.left
  exact ⟨o2, h2⟩
theorem SkP.slice (h : Has o w0 w (SkP b x T)) : (∃ p c, x.nv = .slice p T.nN c) ∧ T.nN ≤ maxLen := by
  obtain ⟨o1, h1⟩ := SkP.rows h
  exact ⟨h1.rowsSlice, h1.rowsSmall⟩
theorem SkP.ptr (h : Has o w0 w (SkP b x T)) {i : Nat} (hi : i < T.nN) : ∃ g cap, x.nv = .slice (some ⟨g, 0, none⟩) T.nN cap ∧ w.cell? ⟨g, i, none⟩ = some (.pointer (some ⟨x.nb i, 0, none⟩)) := by
  obtain ⟨o1, h1⟩ := SkP.rows h
  obtain ⟨g, cap, e, hc, _⟩ := h1.rowsAt (fun _ => rfl) hi
  refine ⟨g, cap, e, ?_⟩
  have := hc 0 _ rfl
  rwa [Nat.mul_one, Nat.add_zero] at this
theorem SkP.node (h : Has o w0 w (SkP b x T)) {i : Nat} (hi : i < T.nN) : ∀ k, k < 28 → w.cell? ⟨x.nb i, k, none⟩ = some (ndAt (T.E i) (x.C i) k) := by
  obtain ⟨o1, h1, _⟩ := h.right
  obtain ⟨o2, h2, _⟩ := h1.right
  obtain ⟨o3, h3, _⟩ := h2.pick hi
  exact fun k hk => (h3.blkAt hk).1
/-- A cell of a tower. -/
theorem SkP.tower (h : Has o w0 w (SkP b x T)) {i j : Nat} {v : Int} (hv : T.at_ (i, j) = some v) (hj : j < 8) : i < T.nN ∧ w.cell? ⟨x.nb i, 19 + j, none⟩ = some (.int .i64 (x.C i j : Nat)) := by
  unfold ASk.at_ at hv
  split at hv
  · rename_i hc
    refine ⟨hc.1, ?_⟩
    rw [SkP.node h hc.1 (19 + j) (by omega)]
    unfold ndAt
    have hc2 : j < (T.E i).h := hc.2.2
    rw [if_neg (by omega), if_neg (by omega), if_neg (by omega), if_neg (by omega), if_pos (by omega), show 19 + j - 19 = j by omega, if_pos hc2]
  · cases hv

theorem skRows_set (x : SkIx) (T : ASk) (l : SLoc) (v : Int) : SkRows x (T.set l v) = SkRows x T := by
  unfold SkRows
  have : (fun i => Part.node (x.nb i) ((T.set l v).E i) (x.C i)) = fun i => Part.node (x.nb i) (T.E i) (x.C i) := funext fun i => by
    obtain ⟨k1, k2, k3, k4, _⟩ := T.key_set l v i
    have : ndAt ((T.set l v).E i) (x.C i) = ndAt (T.E i) (x.C i) := funext fun k => by unfold ndAt; rw [k1, k2, k3, k4]
    unfold Part.node
    rw [this]
  rw [this]; rfl
theorem skRows_fell (x : SkIx) (T : ASk) (j : Nat) : SkRows x (T.fell j) = SkRows x T := by
  unfold SkRows
  have : (fun i => Part.node (x.nb i) ((T.fell j).E i) (x.C i)) = fun i => Part.node (x.nb i) (T.E i) (x.C i) := funext fun i => by
    have : ndAt ((T.fell j).E i) (x.C i) = ndAt (T.E i) (x.C i) := by
      by_cases e : i = j
      · have e9 : (T.fell j).E i = { T.E i with gone := true } := if_pos e
        rw [e9]; rfl
      · have e9 : (T.fell j).E i = T.E i := if_neg e
        rw [e9]
    unfold Part.node
    rw [this]
  rw [this]; rfl

/-- The arena out of a list. -/
theorem skp_arena (h : Has o w0 w (SkP b x T)) : ∃ o', OwnF o' w w T.ab x.S ∧ (∀ y ∈ o', y ∈ o ∨ w0.heap.size ≤ y) ∧ ∀ w' S' T', T'.ab = T.ab → SkRows x T' = SkRows x T → OwnF o' w w' T.ab S' → Has o w0 w' (SkP b { x with S := S' } T') := by
  obtain ⟨o1, h1, p1, _, b1⟩ := h.left
  obtain ⟨o2, h2, p2, q2, b2⟩ := h1.right
  refine ⟨o2, h2, fun y hy => ?_, fun w' S' T' e1 e2 hS => ?_⟩
  · rcases p2 y hy with h | h
    · exact p1 y h
    · have := q2 y hy; omega
  · have := b1 _ _ (b2 _ (.arena T.ab S') hS)
    show Has o w0 w' (((Part.blk b 2 73 (skF T'.ab x.nv)).sep (.arena T'.ab S')).sep (SkRows x T'))
    rw [e1, e2]; exact this
theorem sk_load (h : Has o w0 w (SkP b x T)) (hr : SkRep x.S x.C T) (l : SLoc) (v : Int) (hl : T.at_ l = some v) :
    Calls Tryd.prog 27 #[.pointer (some ⟨T.ab, 0, none⟩), .int .i64 (x.C l.1 l.2 : Nat)] w fun e w' => e = .returned (.tuple #[.int .u64 v, .int .i64 0]) ∧ Has o w0 w' (SkP b { x with S := x.S.step } T.step) := by
  obtain ⟨o', hO, _, back⟩ := skp_arena h
  refine (own_load hO _ v (hr.rep.has l v hl)).mono ?_
  rintro e w' ⟨rfl, h'⟩
  exact ⟨rfl, back _ _ T.step rfl rfl h'⟩
theorem sk_store (h : Has o w0 w (SkP b x T)) (hr : SkRep x.S x.C T) (l : SLoc) (u v : Int) (hl : T.at_ l = some u) :
    Calls Tryd.prog 45 #[.pointer (some ⟨T.ab, 0, none⟩), .int .i64 (x.C l.1 l.2 : Nat), .int .u64 v] w fun e w' => e = .returned (.int .i64 0) ∧ Has o w0 w' (SkP b { x with S := x.S.step.put (x.C l.1 l.2) v } (T.step.set l v)) := by
  obtain ⟨o', hO, _, back⟩ := skp_arena h
  refine (own_store hO _ u v (hr.rep.has l u hl)).mono ?_
  rintro e w' ⟨rfl, h'⟩
  exact ⟨rfl, back _ _ (T.step.set l v) rfl (skRows_set x T.step l v) h'⟩
theorem sk_cas (h : Has o w0 w (SkP b x T)) (hr : SkRep x.S x.C T) (l : SLoc) (u v : Int) (hl : T.at_ l = some u) :
    Calls Tryd.prog 46 #[.pointer (some ⟨T.ab, 0, none⟩), .int .i64 (x.C l.1 l.2 : Nat), .int .u64 u, .int .u64 v] w fun e w' => e = .returned (.tuple #[.bool true, .int .i64 0]) ∧ Has o w0 w' (SkP b { x with S := x.S.step.put (x.C l.1 l.2) v } (T.step.set l v)) := by
  obtain ⟨o', hO, _, back⟩ := skp_arena h
  refine (own_cas hO _ u v (hr.rep.has l u hl)).mono ?_
  rintro e w' ⟨rfl, h'⟩
  exact ⟨rfl, back _ _ (T.step.set l v) rfl (skRows_set x T.step l v) h'⟩
theorem sk_cas_not (h : Has o w0 w (SkP b x T)) (hr : SkRep x.S x.C T) (l : SLoc) (u old v : Int) (hl : T.at_ l = some u) (hne : u ≠ old) :
    Calls Tryd.prog 46 #[.pointer (some ⟨T.ab, 0, none⟩), .int .i64 (x.C l.1 l.2 : Nat), .int .u64 old, .int .u64 v] w fun e w' => e = .returned (.tuple #[.bool false, .int .i64 0]) ∧ Has o w0 w' (SkP b { x with S := x.S.step } T.step) := by
  obtain ⟨o', hO, _, back⟩ := skp_arena h
  refine (own_cas_not hO _ u old v (hr.rep.has l u hl) hne).mono ?_
  rintro e w' ⟨rfl, h'⟩
  exact ⟨rfl, back _ _ T.step rfl rfl h'⟩
end Go.Proofs.YtpckpgdkfimapaaDoor
