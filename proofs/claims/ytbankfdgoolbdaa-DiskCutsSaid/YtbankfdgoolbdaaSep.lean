/- Parts of a memory side by side: each in blocks of its own. Plain lemmas: nothing is claimed of a program here. -/
import Derived.Test.YtbankfdgoolbdaaBase
namespace Go.Proofs.Ytbankfdgoolbdaa
open Go Go.RowKit
set_option linter.unusedVariables false

/-- Something that lies in blocks of its own. -/
structure Part where
  at_ : World → List Nat → Prop
  lt : ∀ {w fp}, at_ w fp → ∀ x ∈ fp, x < w.heap.size
  kept : ∀ {own w w' fp}, at_ w fp → Kept own w w' → (∀ x ∈ fp, x ∉ own) → at_ w' fp

/-- Nothing. -/
def Part.emp : Part := ⟨fun _ fp => fp = [], fun h x hx => by simp [h] at hx, fun h _ _ => h⟩

/-- One beside the other. -/
def Part.sep (A B : Part) : Part where
  at_ w fp := ∃ f g, A.at_ w f ∧ B.at_ w g ∧ (∀ x ∈ f, x ∉ g) ∧ fp = f ++ g
  lt := by
    rintro w fp ⟨f, g, hA, hB, _, rfl⟩ x hx
    rcases List.mem_append.1 hx with h | h
    · exact A.lt hA x h
    · exact B.lt hB x h
  kept := by
    rintro own w w' fp ⟨f, g, hA, hB, hd, rfl⟩ k hn
    exact ⟨f, g, A.kept hA k fun x hx => hn x (by simp [hx]), B.kept hB k fun x hx => hn x (by simp [hx]), hd, rfl⟩

/-- A first world's blocks but those of o stand; the part lies in o or was made since. -/
def Has (o : List Nat) (w0 w : World) (A : Part) : Prop := ∃ fp, A.at_ w fp ∧ (∀ x ∈ fp, x ∈ o ∨ w0.heap.size ≤ x) ∧ Kept o w0 w

variable {o : List Nat} {w0 w w' : World} {A B C : Part} {fp : List Nat} {n : Nat} {f g : Nat → Part}

theorem Has.keeps (h : Has o w0 w A) : Kept o w0 w := by
  obtain ⟨_, _, _, k⟩ := h
  exact k

/-- What one part's call leaves: the part in its old blocks or in new ones, all else as it was. -/
theorem Has.step (hA : ∀ x ∈ fp, x ∈ o ∨ w0.heap.size ≤ x) (k : Kept o w0 w) (h : Has fp w w' B) : Has o w0 w' B := by
  obtain ⟨fp', hB, hn, k'⟩ := h
  refine ⟨fp', hB, ?_, k.trans k' fun j hj m => (hA j m).resolve_right (by omega)⟩
  intro x hx
  rcases hn x hx with h | h
  · exact hA x h
  · right; have := k.size; omega

theorem Has.refl (h : A.at_ w fp) : Has fp w w A := ⟨fp, h, fun x hx => .inl hx, Kept.refl _ _⟩

theorem Has.quiet (h : Has o w0 w A) (k : Kept [] w w') : Has o w0 w' A := by
  obtain ⟨fp, hA, hn, k0⟩ := h
  exact ⟨fp, A.kept hA k (by simp), hn, k0.trans k (by simp)⟩
theorem Has.alloc (h : Has o w0 w A) (ob : Obj) : Has o w0 (w.alloc ob) A := h.quiet ((Kept.refl [] w).alloc ob)
theorem Has.drewN (h : Has o w0 w A) (n : Nat) : Has o w0 (w.drewN n) A := h.quiet ((Kept.refl [] w).drewN n)

/-- The left part alone, and back. -/
theorem Has.left (h : Has o w0 w (A.sep B)) : ∃ o', Has o' w w A ∧ (∀ x ∈ o', x ∈ o ∨ w0.heap.size ≤ x) ∧ (∀ x ∈ o', x < w.heap.size) ∧ ∀ w' A', Has o' w w' A' → Has o w0 w' (A'.sep B) := by
  obtain ⟨fp, ⟨f, g, hA, hB, hd, rfl⟩, hn, k⟩ := h
  refine ⟨f, .refl hA, fun x hx => hn x (by simp [hx]), A.lt hA, ?_⟩
  rintro w' A' ⟨f', hA', hn', k'⟩
  refine ⟨f' ++ g, ⟨f', g, hA', B.kept hB k' fun x hx hx' => hd x hx' hx, ?_, rfl⟩, ?_, k.trans k' fun j hj m => (hn j (by simp [m])).resolve_right (by omega)⟩
  · intro x hx hx'
    rcases hn' x hx with h | h
    · exact hd x h hx'
    · have := B.lt hB x hx'; omega
  · intro x hx
    rcases List.mem_append.1 hx with hx | hx
    · rcases hn' x hx with h | h
      · exact hn x (by simp [h])
      · right; have := k.size; omega
    · exact hn x (by simp [hx])

theorem Has.swap (h : Has o w0 w (A.sep B)) : Has o w0 w (B.sep A) := by
  obtain ⟨fp, ⟨f, g, hA, hB, hd, rfl⟩, hn, k⟩ := h
  exact ⟨g ++ f, ⟨g, f, hB, hA, fun x hx hx' => hd x hx' hx, rfl⟩, fun x hx => hn x (by simp at hx ⊢; exact hx.symm), k⟩

theorem Has.assoc (h : Has o w0 w ((A.sep B).sep C)) : Has o w0 w (A.sep (B.sep C)) := by
  obtain ⟨fp, ⟨f, g, ⟨a, b, hA, hB, hd, rfl⟩, hC, hd', rfl⟩, hn, k⟩ := h
  refine ⟨a ++ (b ++ g), ⟨a, b ++ g, hA, ⟨b, g, hB, hC, fun x hx => hd' x (by simp [hx]), rfl⟩, ?_, rfl⟩, fun x hx => hn x (by simpa using hx), k⟩
  intro x hx hx'
  rcases List.mem_append.1 hx' with h | h
  · exact hd x hx h
  · exact hd' x (by simp [hx]) h

theorem Has.assoc' (h : Has o w0 w (A.sep (B.sep C))) : Has o w0 w ((A.sep B).sep C) := by
  obtain ⟨fp, ⟨a, bg, hA, ⟨b, g, hB, hC, hd', rfl⟩, hd, rfl⟩, hn, k⟩ := h
  refine ⟨(a ++ b) ++ g, ⟨a ++ b, g, ⟨a, b, hA, hB, fun x hx hx' => hd x hx (by simp [hx']), rfl⟩, hC, ?_, rfl⟩, fun x hx => hn x (by simpa using hx), k⟩
  intro x hx hx'
  rcases List.mem_append.1 hx with h | h
  · exact hd x h (by simp [hx'])
  · exact hd' x h hx'

/-- The right part alone, and back. -/
theorem Has.right (h : Has o w0 w (A.sep B)) : ∃ o', Has o' w w B ∧ (∀ x ∈ o', x ∈ o ∨ w0.heap.size ≤ x) ∧ (∀ x ∈ o', x < w.heap.size) ∧ ∀ w' B', Has o' w w' B' → Has o w0 w' (A.sep B') := by
  obtain ⟨o', h1, h2, h3, h4⟩ := h.swap.left
  exact ⟨o', h1, h2, h3, fun w' B' h => (h4 w' B' h).swap⟩

theorem Has.fst (h : Has o w0 w (A.sep B)) : Has o w0 w A := by
  obtain ⟨fp, ⟨f, g, hA, hB, hd, rfl⟩, hn, k⟩ := h
  exact ⟨f, hA, fun x hx => hn x (by simp [hx]), k⟩

theorem Has.mono (h : Has o w0 w A) (e : ∀ fp, A.at_ w fp → B.at_ w fp) : Has o w0 w B := by
  obtain ⟨fp, hA, hn, k⟩ := h
  exact ⟨fp, e fp hA, hn, k⟩

/-- A new part beside. -/
theorem Has.beside (h : Has o w0 w A) (hB : Has [] w w' B) : Has o w0 w' (A.sep B) := by
  obtain ⟨fp, hA, hn, k⟩ := h
  obtain ⟨g, hg, hgn, k'⟩ := hB
  have hg' : ∀ x ∈ g, w.heap.size ≤ x := fun x hx => (hgn x hx).resolve_left (by simp)
  refine ⟨fp ++ g, ⟨fp, g, A.kept hA k' (by simp), hg, fun x hx hx' => absurd (A.lt hA x hx) (by have := hg' x hx'; omega), rfl⟩, ?_, k.trans k' (by simp)⟩
  intro x hx
  rcases List.mem_append.1 hx with h | h
  · exact hn x h
  · right; have := k.size; have := hg' x h; omega

/-- A block of plain cells. -/
def Part.blk (b n : Nat) (T : TypeId) (f : Nat → Value) : Part where
  at_ w fp := Blk w b n T f ∧ fp = [b]
  lt := by rintro w fp ⟨h, rfl⟩ x hx; simp at hx; subst hx; exact h.lt
  kept := by rintro own w w' fp ⟨h, rfl⟩ k hn; exact ⟨k.blk h (hn b (by simp)), rfl⟩

/-- A row that a slice owns. -/
def Part.row (e : TypeId) (size : Nat) (v : Value) (n : Nat) (xs : List Value) : Part where
  at_ w fp := w.ownsRow 0 e size v n xs ∧ fp = rowsOf v
  lt := by
    rintro w fp ⟨h, rfl⟩ x hx
    rw [mem_rowsOf] at hx
    rcases h.2 with ⟨rfl, _⟩ | ⟨g, cap, cur, rfl, _, hg, _⟩
    · simp [Value.ownBlock] at hx
    · simp [Value.ownBlock] at hx; subst hx; exact (Array.getElem?_eq_some_iff.1 hg).1
  kept := by rintro own w w' fp ⟨h, rfl⟩ k hn; exact ⟨k.row h fun j hj => hn j (mem_rowsOf.2 hj), rfl⟩

/-- Many, one for each number below n. -/
def Part.all (n : Nat) (f : Nat → Part) : Part where
  at_ w fp := ∃ F : Nat → List Nat, (∀ i, i < n → (f i).at_ w (F i)) ∧ (∀ i j, i < n → j < n → i ≠ j → ∀ x ∈ F i, x ∉ F j) ∧ ∀ x, x ∈ fp ↔ ∃ i, i < n ∧ x ∈ F i
  lt := by
    rintro w fp ⟨F, h, hd, hm⟩ x hx
    obtain ⟨i, hi, hx⟩ := (hm x).1 hx
    exact (f i).lt (h i hi) x hx
  kept := by
    rintro own w w' fp ⟨F, h, hd, hm⟩ k hn
    exact ⟨F, fun i hi => (f i).kept (h i hi) k fun x hx => hn x ((hm x).2 ⟨i, hi, hx⟩), hd, hm⟩

def updP (f : Nat → Part) (i : Nat) (A : Part) : Nat → Part := fun j => if j = i then A else f j

theorem Has.pick (h : Has o w0 w (.all n f)) {i : Nat} (hi : i < n) : ∃ o', Has o' w w (f i) ∧ (∀ x ∈ o', x ∈ o ∨ w0.heap.size ≤ x) ∧ (∀ x ∈ o', x < w.heap.size) ∧ ∀ w' A', Has o' w w' A' → Has o w0 w' (.all n (updP f i A')) := by
  obtain ⟨fp, ⟨F, h, hd, hm⟩, hn, k⟩ := h
  refine ⟨F i, .refl (h i hi), fun x hx => hn x ((hm x).2 ⟨i, hi, hx⟩), (f i).lt (h i hi), ?_⟩
  rintro w' A' ⟨f', hA', hn', k'⟩
  let F' : Nat → List Nat := fun j => if j = i then f' else F j
  refine ⟨(List.range n).flatMap F', ⟨F', ?_, ?_, fun x => by simp⟩, ?_, k.trans k' fun j hj m => (hn j ((hm j).2 ⟨i, hi, m⟩)).resolve_right (by omega)⟩
  · intro j hj
    by_cases e : j = i
    · subst e
      simpa [F', updP] using hA'
    · simp only [F', updP, if_neg e]
      exact (f j).kept (h j hj) k' fun x hx => hd j i hj hi e x hx
  · intro a b ha hb hne x hx hx'
    by_cases ea : a = i
    · have eb : b ≠ i := by omega
      simp only [F', if_pos ea] at hx
      simp only [F', if_neg eb] at hx'
      rcases hn' x hx with h1 | h1
      · exact hd i b hi hb (by omega) x h1 hx'
      · have := (f b).lt (h b hb) x hx'; omega
    · simp only [F', if_neg ea] at hx
      by_cases eb : b = i
      · simp only [F', if_pos eb] at hx'
        rcases hn' x hx' with h1 | h1
        · exact hd a i ha hi (by omega) x hx h1
        · have := (f a).lt (h a ha) x hx; omega
      · simp only [F', if_neg eb] at hx'
        exact hd a b ha hb hne x hx hx'
  · intro x hx
    simp only [List.mem_flatMap, List.mem_range] at hx
    obtain ⟨j, hj, hx⟩ := hx
    by_cases e : j = i
    · simp only [F', if_pos e] at hx
      rcases hn' x hx with h1 | h1
      · exact hn x ((hm x).2 ⟨i, hi, h1⟩)
      · right; have := k.size; omega
    · simp only [F', if_neg e] at hx
      exact hn x ((hm x).2 ⟨j, hj, hx⟩)

/-- One more. -/
theorem Has.more (h : Has o w0 w (.all n f)) (hB : Has [] w w' (f n)) : Has o w0 w' (.all (n + 1) f) := by
  obtain ⟨fp, ⟨F, h, hd, hm⟩, hn, k⟩ := h
  obtain ⟨g, hg, hgn, k'⟩ := hB
  have hg' : ∀ x ∈ g, w.heap.size ≤ x := fun x hx => (hgn x hx).resolve_left (by simp)
  let F' : Nat → List Nat := fun j => if j = n then g else F j
  refine ⟨(List.range (n + 1)).flatMap F', ⟨F', ?_, ?_, fun x => by simp⟩, ?_, k.trans k' (by simp)⟩
  · intro j hj
    by_cases e : j = n
    · subst e
      simpa [F'] using hg
    · simp only [F', if_neg e]
      exact (f j).kept (h j (by omega)) k' (by simp)
  · intro a b ha hb hne x hx hx'
    by_cases ea : a = n
    · have eb : b ≠ n := by omega
      simp only [F', if_pos ea] at hx
      simp only [F', if_neg eb] at hx'
      have := hg' x hx
      have := (f b).lt (h b (by omega)) x hx'; omega
    · simp only [F', if_neg ea] at hx
      by_cases eb : b = n
      · simp only [F', if_pos eb] at hx'
        have := hg' x hx'
        have := (f a).lt (h a (by omega)) x hx; omega
      · simp only [F', if_neg eb] at hx'
        exact hd a b (by omega) (by omega) hne x hx hx'
  · intro x hx
    simp only [List.mem_flatMap, List.mem_range] at hx
    obtain ⟨j, hj, hx⟩ := hx
    by_cases e : j = n
    · simp only [F', if_pos e] at hx
      right; have := k.size; have := hg' x hx; omega
    · simp only [F', if_neg e] at hx
      exact hn x ((hm x).2 ⟨j, by omega, hx⟩)

theorem Has.congr (h : Has o w0 w (.all n f)) (e : ∀ i, i < n → f i = g i) : Has o w0 w (.all n g) := by
  refine h.mono ?_
  rintro fp ⟨F, h, hd, hm⟩
  exact ⟨F, fun i hi => e i hi ▸ h i hi, hd, hm⟩

theorem Has.nothing (f : Nat → Part) : Has [] w w (.all 0 f) := ⟨[], ⟨fun _ => [], fun i hi => by omega, fun i j hi => by omega, fun x => by simp⟩, by simp, Kept.refl _ _⟩

end Go.Proofs.Ytbankfdgoolbdaa
