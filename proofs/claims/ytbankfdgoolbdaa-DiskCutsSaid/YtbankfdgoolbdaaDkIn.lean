/- What a call of a disk asks of bytes that lie elsewhere; two parts, the left one called. Nothing is claimed of a program here. -/
import Derived.Test.YtbankfdgoolbdaaDkCrW
import Derived.Test.YtbankfdgoolbdaaDkAppW
namespace Go.Proofs.Ytbankfdgoolbdaa
open Go Go.RowKit Go.Lib
set_option linter.unusedVariables false
variable {o own : List Nat} {w0 w w' w1 : World} {db n : Nat} {a : ADk} {L : DLay} {A B : Part} {v : Value} {bs : List UInt8}

theorem BytesAt.kept (h : BytesAt w v bs) (k : Kept own w w') (hn : ∀ x i s, v = .slice (some x) i s → x.block ∉ own) : BytesAt w' v bs := by
  obtain ⟨p, c, rfl, h2, h3, h4⟩ := h.out
  refine ⟨p, c, rfl, h2, h3, fun x hx => ⟨(h4 x hx).1, fun j u hj => ?_⟩⟩
  subst hx
  obtain ⟨hs, hc⟩ := h4 x rfl
  have h5 := hc j u hj
  have hb := hn x _ _ rfl
  obtain ⟨xb, xo, xs⟩ := x
  obtain rfl : xs = none := hs
  have e : (⟨xb, xo, none⟩ : Addr).add j = ⟨xb, xo + j, none⟩ := by
    simp only [Addr.add]
    split
    · rename_i e; subst e; rfl
    · rfl
  rw [e] at h5 ⊢
  exact k.cell h5 hb

theorem bytesAt_part (h : Has o w0 w (.row 5 1 v bs.length (bytesV bs))) : BytesAt w v bs := by
  obtain ⟨_, ⟨hr, _⟩, _⟩ := h
  obtain ⟨p, c, rfl, _, h5⟩ := bytesAt_pre hr
  have := h5 bs.length (Nat.le_refl _)
  rwa [List.take_length] at this

/-- The left part is called; the right one stands. -/
theorem Has.leftB (h : Has o w0 w (A.sep B)) : ∃ o', Has o' w w A ∧ (∀ x ∈ o', x ∈ o ∨ w0.heap.size ≤ x) ∧ (∀ w', Kept o' w w' → ∃ o2, Has o2 w' w' B) ∧ ∀ w' A', Has o' w w' A' → Has o w0 w' (A'.sep B) := by
  obtain ⟨fp, ⟨f, g, hA, hB, hd, rfl⟩, hn, k⟩ := h
  have h1 : Has o w0 w (A.sep B) := ⟨f ++ g, ⟨f, g, hA, hB, hd, rfl⟩, hn, k⟩
  refine ⟨f, .refl hA, fun x hx => hn x (by simp [hx]), fun w' k' => ⟨g, .refl (B.kept hB k' fun x hx hx' => hd x hx' hx)⟩, ?_⟩
  rintro w' A' ⟨f', hA', hn', k'⟩
  refine ⟨f' ++ g, ⟨f', g, hA', B.kept hB k' fun x hx hx' => hd x hx' hx, ?_, rfl⟩, ?_, k.trans k' fun j hj m => (hn j (by simp [m])).resolve_right (by omega)⟩
  · intro x hx hx'
    rcases hn' x hx with h | h
    · exact hd x h hx'
    · have := B.lt hB x hx'; omega
  · intro x hx
    rcases List.mem_append.1 hx with hx | hx
    · rcases hn' x hx with h | h
      · exact hn x (by simp [h])
      · right; have := k.size; omega
    · exact hn x (by simp [hx])

/-- Append of bytes that lie in a row beside. -/
theorem append_row (h : Has o w0 w ((Dk db a).sep (.row 5 1 v bs.length (bytesV bs)))) (x : ByteArray) :
    Calls Try.prog 14 #[ptr db, .string x, v] w fun e w' => e = .returned (.int .i64 (a.append x.data.toList bs).1) ∧ Has o w0 w' ((Dk db (a.append x.data.toList bs).2).sep (.row 5 1 v bs.length (bytesV bs))) := by
  obtain ⟨o', h1, _, h3, back⟩ := h.leftB
  refine (append_walk h1 x v bs fun w' k => ?_).mono ?_
  · obtain ⟨o2, h4⟩ := h3 w' k
    exact (bytesAt_part h4).x
  · rintro e w' ⟨rfl, h5⟩
    exact ⟨rfl, back _ _ h5⟩

theorem cell_lt {x : Addr} {u : Value} (h : w.cell? x = some u) : x.block < w.heap.size := by
  simp only [World.cell?] at h
  split at h
  · rename_i c _ _ hh
    exact (Array.getElem?_eq_some_iff.1 hh).1
  · cases h

theorem BytesX.kept (h : BytesX w v bs) (k : Kept own w w') (hn : ∀ x ∈ own, w.heap.size ≤ x) : BytesX w' v bs := by
  obtain ⟨p, c, rfl, h3, h4⟩ := h.out
  refine ⟨p, c, rfl, h3, fun x hx j u hj => ?_⟩
  have h5 := h4 x hx j u hj
  have h6 := cell_lt h5
  have h7 := World.cell?_spot h5
  generalize x.add j = y at *
  obtain ⟨yb, yo, ys⟩ := y
  obtain rfl : ys = none := h7
  exact k.cell h5 fun hm => by have := hn _ hm; simp at h6; omega

/-- Append of bytes that came in. -/
theorem append_out (h : Has [] w0 w (Dk db a)) (x : ByteArray) (hB : BytesX w0 v bs) :
    Calls Try.prog 14 #[ptr db, .string x, v] w fun e w' => e = .returned (.int .i64 (a.append x.data.toList bs).1) ∧ Has [] w0 w' (Dk db (a.append x.data.toList bs).2) := by
  obtain ⟨fp, hA, hn, k⟩ := h
  have h1 : Has fp w w (Dk db a) := .refl hA
  refine (append_walk h1 x v bs fun w' k' => ?_).mono ?_
  · exact hB.kept (own := fp) ((k.mono fun _ _ h => by simp at h).tr k') fun y hy => (hn y hy).resolve_left (by simp)
  · rintro e w' ⟨rfl, h5⟩
    exact ⟨rfl, Has.step hn k h5⟩

end Go.Proofs.Ytbankfdgoolbdaa
