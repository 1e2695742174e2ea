/- What a run comes to, told plainly; a run's tasks as they are made. -/
import Derived.Test.YtfipoadgfebibaaDoorTurn
import Derived.Test.YtfipoadgfebibaaDoorSepMore
import Derived.Deep.OwnRows
namespace Go.Proofs.YtfipoadgfebibaaDoor
open Go Go.RowKit
set_option linter.unusedVariables false

/-- An arena whose cells are all taken. -/
def allTaken (size : Nat) : Ar := ⟨size, fun c => if c < size then some 0 else none, 0⟩

/-- The arena, what has come out, how many steps were done, behind the first k picks. -/
def runS (n : Nat) (L : Nat → Nat) (P : Nat → Nat → OpV) (S0 : Ar) (z : Nat → Int) : Nat → Ar × (Nat → List Int) × Nat
  | 0 => (S0, fun _ => [], 0)
  | k + 1 => ((turnS n L P (runS n L P S0 z k).1 (runS n L P S0 z k).2.1 (z k)).2.1, (turnS n L P (runS n L P S0 z k).1 (runS n L P S0 z k).2.1 (z k)).2.2,
      (runS n L P S0 z k).2.2 + if (turnS n L P (runS n L P S0 z k).1 (runS n L P S0 z k).2.1 (z k)).1 = true then 1 else 0)

theorem doS_keeps (S : Ar) (k c x y : Int) : (doS S k c x y).2.2.size = S.size ∧ ∀ d, ((doS S k c x y).2.2.get d).isSome = (S.get d).isSome := by
  have key : ∀ v z : Int, (if 0 ≤ c then S.get c.toNat else none) = some v → (S.step.put c.toNat z).size = S.size ∧ ∀ d, ((S.step.put c.toNat z).get d).isSome = (S.get d).isSome := by
    intro v z hv
    refine ⟨rfl, fun d => ?_⟩
    show (if d = c.toNat then some z else S.get d).isSome = _
    by_cases e : d = c.toNat
    · subst e
      rw [if_pos rfl]
      split at hv
      · rw [hv]; rfl
      · cases hv
    · rw [if_neg e]
  unfold doS
  split
  · split
    · exact ⟨rfl, fun _ => rfl⟩
    · rename_i v hv
      repeat' split
      all_goals first | exact ⟨rfl, fun _ => rfl⟩ | exact key _ _ hv
  · exact ⟨rfl, fun _ => rfl⟩

structure RunInv (n : Nat) (L : Nat → Nat) (S0 : Ar) (k : Nat) (st : Ar × (Nat → List Int) × Nat) : Prop where
  size : st.1.size = S0.size
  some : ∀ d, (st.1.get d).isSome = (S0.get d).isSome
  len : ∀ i, i < n → (st.2.1 i).length ≤ L i
  past : ∀ i, n ≤ i → st.2.1 i = []
  many : st.2.2 ≤ k

theorem runS_inv (n : Nat) (L : Nat → Nat) (P : Nat → Nat → OpV) (S0 : Ar) (z : Nat → Int) (k : Nat) : RunInv n L S0 k (runS n L P S0 z k) := by
  induction k with
  | zero => exact ⟨rfl, fun _ => rfl, fun i hi => Nat.zero_le _, fun i hi => rfl, Nat.le_refl _⟩
  | succ k ih =>
    unfold runS turnS
    split
    · rename_i hc
      obtain ⟨h0, h1, h2⟩ := hc
      have hd := doS_keeps (runS n L P S0 z k).1 (P (z k).toNat ((runS n L P S0 z k).2.1 (z k).toNat).length).k (P (z k).toNat ((runS n L P S0 z k).2.1 (z k).toNat).length).c (P (z k).toNat ((runS n L P S0 z k).2.1 (z k).toNat).length).x (P (z k).toNat ((runS n L P S0 z k).2.1 (z k).toNat).length).y
      refine ⟨hd.1.trans ih.size, fun d => (hd.2 d).trans (ih.some d), fun i hi => ?_, fun i hi => ?_, ?_⟩
      · show List.length (updF _ _ _ i) ≤ _
        unfold updF
        by_cases e : i = (z k).toNat
        · rw [if_pos e]; subst e; simp; omega
        · rw [if_neg e]; exact ih.len i hi
      · show updF _ _ _ i = []
        unfold updF
        rw [if_neg (by omega)]
        exact ih.past i hi
      · have := ih.many; show _ + (if true = true then 1 else 0) ≤ _; simp; exact this
    · exact ⟨ih.size, ih.some, ih.len, ih.past, by have := ih.many; show _ + (if false = true then 1 else 0) ≤ _; simp; omega⟩

theorem RunAt.tasksRow {w0 w b S n tb vs ov outs tv} (h : RunAt w0 w b S n tb vs ov outs (tasksP tv n tb)) :
    w.ownsRow 0 57 1 tv n ((List.range n).map fun i => .iface 52 (.pointer (some ⟨tb i, 0, none⟩))) := by
  obtain ⟨o1, ⟨fp, ⟨hr, _⟩, _⟩, _⟩ := h.right
  exact hr

theorem Has.madeTask {w : World} (b : Nat) (ops : Value) : Has [] w (w.alloc (.cells #[.pointer (some ⟨b, 0, none⟩), ops, .slice none 0 0] 54)) (.task b w.heap.size ops (.slice none 0 0) []) := by
  refine ⟨[w.heap.size], ⟨[w.heap.size], [], ⟨Blk.made w _ _ _ _ rfl ?_, rfl⟩, ⟨World.ownsRow_nil _ _ _ _, by simp [rowsOf, Value.ownBlock]⟩, by simp, rfl⟩, by simp, (Kept.refl [] w).alloc _⟩
  intro i hi
  have : i = 0 ∨ i = 1 ∨ i = 2 := by omega
  rcases this with rfl | rfl | rfl <;> rfl

/-- One more task. -/
theorem RunAt.moreTask {w0 w w5 : World} {b : Nat} {S : Ar} {i : Nat} {tb : Nat → Nat} {vs : Nat → Value} {tv v' : Value} (ob : Obj)
    (h : RunAt w0 w b S i tb vs (fun _ => .slice none 0 0) (fun _ => []) (tasksP tv i tb))
    (happ : Appended ((w.alloc (.cells #[.pointer (some ⟨b, 0, none⟩), vs i, .slice none 0 0] 54)).alloc ob) w5 57 1 tv v' (i + 1) (((List.range i).map fun j => Value.iface 52 (.pointer (some ⟨tb j, 0, none⟩))) ++ [.iface 52 (.pointer (some ⟨w.heap.size, 0, none⟩))])) :
    RunAt w0 w5 b S (i + 1) (updF tb i w.heap.size) vs (fun _ => .slice none 0 0) (fun _ => []) (tasksP v' (i + 1) (updF tb i w.heap.size)) := by
  obtain ⟨o1, h1, _, _, back1⟩ := h.left
  obtain ⟨o2, h2, _, _, back2⟩ := h1.right
  have h2' : Has o2 w w (.all i fun j => .task b (updF tb i w.heap.size j) (vs j) (.slice none 0 0) []) := h2.congr fun j hj => by
    have : updF tb i w.heap.size j = tb j := by unfold updF; rw [if_neg (by omega)]
    rw [this]
  have h2'' := h2'.more (w' := w.alloc (.cells #[.pointer (some ⟨b, 0, none⟩), vs i, .slice none 0 0] 54)) (by
    have : updF tb i w.heap.size i = w.heap.size := by unfold updF; rw [if_pos rfl]
    rw [this]; exact Has.madeTask b (vs i))
  have h3 := back1 _ _ (back2 _ _ h2'')
  obtain ⟨o3, h4, _, _, back3⟩ := h3.right
  have h5 := back3 _ _ (Has.appendRow ob h4 happ)
  have e : ((List.range i).map fun j => Value.iface 52 (.pointer (some ⟨tb j, 0, none⟩))) ++ [.iface 52 (.pointer (some ⟨w.heap.size, 0, none⟩))] = (List.range (i + 1)).map fun j => Value.iface 52 (.pointer (some ⟨updF tb i w.heap.size j, 0, none⟩)) := by
    rw [List.range_succ, List.map_append]
    congr 1
    · refine List.map_congr_left fun j hj => ?_
      have : updF tb i w.heap.size j = tb j := by unfold updF; rw [if_neg (by have := List.mem_range.1 hj; omega)]
      rw [this]
    · simp [updF]
  rw [e] at h5
  exact h5

/-- A run's parts. -/
noncomputable def RunP (b : Nat) (S : Ar) (n : Nat) (tb : Nat → Nat) (vs ov : Nat → Value) (outs : Nat → List Int) (R : Part) : Part := ((Part.arena b S).sep (.all n fun i => .task b (tb i) (vs i) (ov i) (outs i))).sep R

theorem list_set_range {α : Type} (n : Nat) (f : Nat → α) (u : α) (c : Nat) (g : Nat → α) (h : ∀ d, d < n → g d = if d = c then u else f d) : ((List.range n).map f).set c u = (List.range n).map g := by
  apply List.ext_getElem?
  intro d
  rw [List.getElem?_set]
  by_cases hd : d < n
  · rw [List.getElem?_map, List.getElem?_map, List.getElem?_range hd]
    simp only [Option.map_some, List.length_map, List.length_range]
    by_cases e : c = d
    · subst e; rw [if_pos rfl, if_pos hd, h _ hd, if_pos rfl]
    · rw [if_neg e, h _ hd, if_neg (fun x => e x.symm)]
  · rw [List.getElem?_eq_none (by simp; omega), List.getElem?_eq_none (by simp; omega)]
    simp; intro e; omega

theorem Has.madeRow {w : World} (e : TypeId) (z : Value) (n : Nat) (h : n ≤ maxLen) (f : Nat → Value) (hf : ∀ i, i < n → f i = z) : Has [] w (w.alloc (.cells (madeCells #[z] n) e)) (.row e 1 (.slice (some ⟨w.heap.size, 0, none⟩) n n) n ((List.range n).map f)) := by
  have hm := Has.made (w := w) e (madeCells #[z] n) (by rw [size_madeCells]; exact h)
  rw [size_madeCells, toList_madeCells_one] at hm
  have e2 : List.replicate n z = (List.range n).map f := by
    apply List.ext_getElem?
    intro i
    by_cases hi : i < n
    · rw [List.getElem?_replicate, if_pos hi, List.getElem?_map, List.getElem?_range hi]; simp [hf i hi]
    · rw [List.getElem?_eq_none (by simp; omega), List.getElem?_eq_none (by simp; omega)]
  rw [e2] at hm
  exact hm

/-- What came out: a row of rows. -/
noncomputable def Part.outs (v : Value) (n : Nat) (ov : Nat → Value) (outs : Nat → List Int) : Part :=
  (Part.row 26 1 v n ((List.range n).map ov)).sep (.all n fun i => .row 32 1 (ov i) (outs i).length ((outs i).map (Value.int .u64)))

theorem outs_imp (b : Nat) (S : Ar) (n : Nat) (tb : Nat → Nat) (vs ov : Nat → Value) (outs : Nat → List Int) (R O : Part) (v : Value) (hO : O = .row 26 1 v n ((List.range n).map ov)) :
    ((RunP b S n tb vs ov outs R).sep O).Imp (Part.outs v n ov outs) := by
  subst hO
  have h1 : (RunP b S n tb vs ov outs R).Imp (.all n fun i => .row 32 1 (ov i) (outs i).length ((outs i).map (Value.int .u64))) :=
    ((Part.Imp.fst _ _).trans (Part.Imp.snd _ _)).trans (Part.Imp.all fun i _ => Part.Imp.snd _ _)
  refine (Part.Imp.sep h1 (Part.Imp.refl _)).trans ?_
  rintro w fp ⟨f, g, hA, hB, hd, rfl⟩
  exact ⟨g ++ f, ⟨g, f, hB, hA, fun x hx hx' => hd x hx' hx, rfl⟩, fun x hx => by simp at hx ⊢; exact hx.symm⟩

end Go.Proofs.YtfipoadgfebibaaDoor
