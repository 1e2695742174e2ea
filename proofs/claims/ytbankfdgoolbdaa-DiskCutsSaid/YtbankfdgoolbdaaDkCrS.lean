/- For Crash, in memory: a map that is ranged over, a part that takes another one's place. Nothing is claimed of a program here. -/
import Derived.Test.YtbankfdgoolbdaaDkCrP
namespace Go.Proofs.Ytbankfdgoolbdaa
open Go Go.RowKit Go.Maps Go.WideMaps
set_option linter.unusedVariables false
variable {o : List Nat} {w0 w w' : World} {A B : Part} {b r n cnt : Nat} {nv : List (Nm × Value)} {left : Lit → Bool}

/-- A part by itself, and back. -/
theorem Has.call (h : Has o w0 w A) : ∃ o', Has o' w w A ∧ (∀ x ∈ o', x < w.heap.size) ∧ ∀ w' B, Has o' w w' B → Has o w0 w' B := by
  obtain ⟨fp, hA, hn, k⟩ := h
  exact ⟨fp, .refl hA, A.lt hA, fun w' B hB => Has.step hn k hB⟩

/-- A map under way: which keys are still to come. -/
def Part.rng (b r : Nat) (nv : List (Nm × Value)) (left : Lit → Bool) (cnt : Nat) : Part where
  at_ w fp := w.ranges Try.prog 9 anyElem b r nv.length (dmap nv) left cnt ∧ fp = [b, r]
  lt := by
    rintro w fp ⟨h, rfl⟩ x hx
    have h1 := h.owns.lt
    have h2 := h.lt
    simp at hx
    rcases hx with rfl | rfl
    · exact h1
    · exact h2
  kept := by
    rintro own w w' fp ⟨h, rfl⟩ k hn
    have h1 := h.owns.lt
    have h2 := h.lt
    obtain ⟨es, clock, since, seen, c0, hb, F, hs, hD, hr, rest⟩ := h
    exact ⟨⟨es, clock, since, seen, c0, (k.block b h1 (hn b (by simp))).trans hb, F, hs, hD, (k.block r h2 (hn r (by simp))).trans hr, rest⟩, rfl⟩

theorem Has.rngAt (h : Has o w0 w (.rng b r nv left cnt)) : w.ranges Try.prog 9 anyElem b r nv.length (dmap nv) left cnt := by
  obtain ⟨fp, ⟨hm, _⟩, _⟩ := h
  exact hm

/-- A range begins. -/
theorem Has.rngBegin (h : Has o w0 w (.map b nv)) (hr : w'.ranges Try.prog 9 anyElem b w.heap.size nv.length (dmap nv) left cnt) (hg : w.grownBy w' none) :
    Has o w0 w' (.rng b w.heap.size nv left cnt) := by
  obtain ⟨fp, ⟨hm, rfl⟩, hn, k⟩ := h
  refine Has.step hn k ⟨[b, w.heap.size], ⟨hr, rfl⟩, fun x hx => ?_, (Kept.refl _ w).grown hg fun k _ e => by cases e⟩
  simp at hx
  rcases hx with rfl | rfl
  · exact .inl (by simp)
  · exact .inr (Nat.le_refl _)

/-- A range goes on. -/
theorem Has.rngNext {left' : Lit → Bool} {cnt' : Nat} (h : Has o w0 w (.rng b r nv left cnt)) (hr : w'.ranges Try.prog 9 anyElem b r nv.length (dmap nv) left' cnt') (hg : w.grownBy w' (some r)) :
    Has o w0 w' (.rng b r nv left' cnt') := by
  obtain ⟨fp, ⟨hm, rfl⟩, hn, k⟩ := h
  refine Has.step hn k ⟨[b, r], ⟨hr, rfl⟩, fun x hx => .inl hx, (Kept.refl _ w).grown hg fun k _ e => by cases e; simp⟩

/-- What comes out of a range lies in the map. -/
theorem rng_entry {x : ByteArray} {c : Value} {kl : Lit} {y : DataW Value × List MemPlace} (hk : keyOf Try.prog 9 (.string x) = some kl) (hy : anyElem c = some y) (hat : ∀ zd, (dmap nv).atKey kl zd = y.1) :
    kl = .string x.data.toList ∧ alFind nv x.data.toList = some c ∧ x.size ≤ maxLen := by
  have hkl : kl = .string x.data.toList ∧ x.size ≤ maxLen := by
    obtain ⟨s, h1, h2, h3⟩ := Maps.keyOf_str Try.underlying9 hk
    unfold encStr at h1
    obtain rfl : x = ⟨s.toArray⟩ := by injection h1
    exact ⟨h2, h3⟩
  obtain ⟨rfl, hx⟩ := hkl
  unfold anyElem at hy
  cases hy
  have h1 := hat .nil
  rw [dmap_at] at h1
  cases hf : alFind nv x.data.toList with
  | none => rw [hf] at h1; simp at h1
  | some v => rw [hf] at h1; simp at h1; exact ⟨rfl, by rw [h1], hx⟩

theorem has_key (nv : List (Nm × Value)) (s : Nm) : Maps.has (dmap nv) (.string s) = nv.any fun p => p.1 == s := by
  show (dmapL nv).any (fun p => p.1.sameKey (.string s)) = _
  unfold dmapL
  rw [List.any_map]
  rfl

/-- A part in the place of another one among many. -/
theorem Has.allPut {f : Nat → Part} (h : Has o w0 w (.all n f)) {i : Nat} (hi : i < n) (hB : Has [] w w' B) : Has o w0 w' (.all n (updP f i B)) := by
  obtain ⟨o', _, _, _, back⟩ := h.pick hi
  exact back _ _ hB.any

end Go.Proofs.Ytbankfdgoolbdaa
