/- The reference's arena as parts, and as it is made with all cells taken. -/
import Derived.Test.YtfipoadgfebibaaDoorRun
import Derived.Test.YtfipoadgfebibaaDoorRefOps
namespace Go.Proofs.YtfipoadgfebibaaDoor
open Go Go.RowKit
set_option linter.unusedVariables false

def Part.ref (b : Nat) (S : Ar) : Part := ⟨fun w fp => RefAt w b fp S, fun h => h.fp_lt, fun h k hn => h.kept k hn⟩

/-- The reference's arena, spelt out. -/
noncomputable def refParts (r : Nat) (size : Int) (hv tv : Value) (hs : List Int) (ts : List Bool) (many : Int) : Part :=
  (Part.blk r 4 63 (rfF size hv tv many)).sep ((Part.row 32 1 hv hs.length (hs.map (Value.int .u64))).sep (.row 4 1 tv ts.length (ts.map Value.bool)))

theorem refParts_ref {r : Nat} {size : Nat} {hv tv : Value} {hs : List Int} {ts : List Bool} {many : Int} {S : Ar} (hl : hs.length = ts.length) (hf : hs.length ≤ 65536) (hm : S.steps = many) (hsz : S.size = size) (hi : RfInv S hs ts) : (refParts r size hv tv hs ts many).Imp (Part.ref r S) := by
  rintro w fp ⟨f, g, ⟨hb, rfl⟩, ⟨g1, g2, ⟨h1, rfl⟩, ⟨h2, rfl⟩, hd2, rfl⟩, hd, rfl⟩
  refine ⟨_, ⟨hv, tv, hs, ts, ⟨?_, h1, h2, ?_, ?_, ?_, hl, hf⟩, rfl, hi⟩, ?_⟩
  · rw [hm, hsz]; exact hb
  · intro e; exact hd r (by simp) (by simp [mem_rowsOf, e])
  · intro e; exact hd r (by simp) (by simp [mem_rowsOf, e])
  · intro k e e2; exact hd2 k (mem_rowsOf.2 e) (mem_rowsOf.2 e2)
  · intro x hx; simpa using hx

theorem Has.emp {w w1 : World} (k : Kept [] w w1) : Has [] w w1 .emp := ⟨[], rfl, by simp, k⟩

theorem Part.Imp.perm1 (A B C : Part) : (((Part.emp.sep A).sep B).sep C).Imp (C.sep (A.sep B)) := by
  rintro w fp ⟨_, c, ⟨fA, b, ⟨fe, a, he, hA, _, e1⟩, hB, hd1, rfl⟩, hC, hd, rfl⟩
  have he' : fe = [] := he
  have hA' : A.at_ w fA := by rw [e1, he']; exact hA
  refine ⟨c ++ (fA ++ b), ⟨c, fA ++ b, hC, ⟨fA, b, hA', hB, hd1, rfl⟩, fun x hx hx' => hd x hx' hx, rfl⟩, fun x hx => ?_⟩
  rcases List.mem_append.1 hx with h | h
  · exact List.mem_append.2 (.inr h)
  · exact List.mem_append.2 (.inl h)
theorem Part.Imp.perm2 (A B C : Part) : (((Part.emp.sep B).sep A).sep C).Imp (C.sep (A.sep B)) := by
  refine (Part.Imp.perm1 B A C).trans (Part.Imp.sep (Part.Imp.refl _) ?_)
  rintro w fp ⟨f, g, hA, hB, hd, rfl⟩
  exact ⟨g ++ f, ⟨g, f, hB, hA, fun x hx hx' => hd x hx' hx, rfl⟩, fun x hx => by simp at hx ⊢; exact hx.symm⟩

theorem Has.madeRefBlk {w : World} (size : Int) (hv tv : Value) : Has [] w (w.alloc (.cells #[.int .i64 size, hv, tv, .int .i64 0] 63)) (.blk w.heap.size 4 63 (rfF size hv tv 0)) := by
  refine Has.madeBlk _ _ _ 4 rfl ?_
  intro i hi
  have : i = 0 ∨ i = 1 ∨ i = 2 ∨ i = 3 := by omega
  rcases this with rfl | rfl | rfl | rfl <;> rfl

theorem ref_made1 {w w1 : World} (k : Kept [] w w1) (size : Nat) (hs : size ≤ 65536) :
    Has [] w (((w1.alloc (.cells (madeCells #[.int .u64 0] size) 32)).alloc (.cells (madeCells #[.bool false] size) 4)).alloc (.cells #[.int .i64 size, .slice (some ⟨w1.heap.size, 0, none⟩) size size, .slice (some ⟨w1.heap.size + 1, 0, none⟩) size size, .int .i64 0] 63)).drew
      (refParts (w1.heap.size + 1 + 1) size (.slice (some ⟨w1.heap.size, 0, none⟩) size size) (.slice (some ⟨w1.heap.size + 1, 0, none⟩) size size) ((List.range size).map fun _ => 0) ((List.range size).map fun d => decide (d < 0)) 0) := by
  have hm : size ≤ maxLen := by simp only [maxLen]; omega
  have h1 := (Has.emp k).beside (Has.madeRow (w := w1) 32 (.int .u64 0) size hm (fun _ => .int .u64 0) fun _ _ => rfl)
  have h2 := h1.beside (Has.madeRow 4 (.bool false) size hm (fun _ => .bool false) fun _ _ => rfl)
  have h3 := h2.beside (Has.madeRefBlk size (.slice (some ⟨w1.heap.size, 0, none⟩) size size) (.slice (some ⟨w1.heap.size + 1, 0, none⟩) size size))
  have h4 := (h3.quiet ((Kept.refl _ _).drew)).weaken (Part.Imp.perm1 _ _ _)
  simp only [World.size_alloc] at h4
  unfold refParts
  simpa [Function.comp_def] using h4

theorem ref_made2 {w w1 : World} (k : Kept [] w w1) (size : Nat) (hs : size ≤ 65536) :
    Has [] w (((w1.alloc (.cells (madeCells #[.bool false] size) 4)).alloc (.cells (madeCells #[.int .u64 0] size) 32)).alloc (.cells #[.int .i64 size, .slice (some ⟨w1.heap.size + 1, 0, none⟩) size size, .slice (some ⟨w1.heap.size, 0, none⟩) size size, .int .i64 0] 63)).drew
      (refParts (w1.heap.size + 1 + 1) size (.slice (some ⟨w1.heap.size + 1, 0, none⟩) size size) (.slice (some ⟨w1.heap.size, 0, none⟩) size size) ((List.range size).map fun _ => 0) ((List.range size).map fun d => decide (d < 0)) 0) := by
  have hm : size ≤ maxLen := by simp only [maxLen]; omega
  have h1 := (Has.emp k).beside (Has.madeRow (w := w1) 4 (.bool false) size hm (fun _ => .bool false) fun _ _ => rfl)
  have h2 := h1.beside (Has.madeRow 32 (.int .u64 0) size hm (fun _ => .int .u64 0) fun _ _ => rfl)
  have h3 := h2.beside (Has.madeRefBlk size (.slice (some ⟨w1.heap.size + 1, 0, none⟩) size size) (.slice (some ⟨w1.heap.size, 0, none⟩) size size))
  have h4 := (h3.quiet ((Kept.refl _ _).drew)).weaken (Part.Imp.perm2 _ _ _)
  simp only [World.size_alloc] at h4
  unfold refParts
  simpa [Function.comp_def] using h4

theorem Has.nils {w w1 : World} (k : Kept [] w w1) (e : TypeId) (n : Nat) : Has [] w w1 (.all n fun _ => .row e 1 (.slice none 0 0) 0 []) :=
  ⟨[], ⟨fun _ => [], fun i hi => ⟨World.ownsRow_nil _ _ _ _, by simp [rowsOf, Value.ownBlock]⟩, fun i j _ _ _ x hx => by simp at hx, fun x => by simp⟩, by simp, k⟩

theorem allTaken_inv (size : Nat) (h1 : 1 ≤ size) (h2 : size ≤ 65536) : RfInv (allTaken size) ((List.range size).map fun _ => 0) ((List.range size).map fun d => decide (d < size)) := by
  refine ⟨h1, h2, by simp [allTaken], fun c => ?_⟩
  show (if c < size then some 0 else none) = _
  rw [List.getD_eq_getElem?_getD, List.getD_eq_getElem?_getD, List.getElem?_map, List.getElem?_map]
  by_cases hc : c < size
  · rw [List.getElem?_range hc, if_pos hc]; simp [hc]
  · rw [List.getElem?_eq_none (by simp; omega), if_neg hc]; simp
theorem runS_skip {n : Nat} {L : Nat → Nat} {P : Nat → Nat → OpV} {S0 : Ar} {z : Nat → Int} {k : Nat} (h : ¬ (0 ≤ z k ∧ z k < n ∧ ((runS n L P S0 z k).2.1 (z k).toNat).length < L (z k).toNat)) : runS n L P S0 z (k + 1) = runS n L P S0 z k := by
  show (_, _, _) = _
  unfold turnS
  rw [if_neg h]
  rfl

theorem runS_step {n : Nat} {L : Nat → Nat} {P : Nat → Nat → OpV} {S0 : Ar} {z : Nat → Int} {k i : Nat} (hz : z k = i) (hi : i < n) (hl : ((runS n L P S0 z k).2.1 i).length < L i) {a1 a2 : Int} {S' : Ar}
    (hd : doS (runS n L P S0 z k).1 (P i ((runS n L P S0 z k).2.1 i).length).k (P i ((runS n L P S0 z k).2.1 i).length).c (P i ((runS n L P S0 z k).2.1 i).length).x (P i ((runS n L P S0 z k).2.1 i).length).y = (a1, a2, S')) :
    runS n L P S0 z (k + 1) = (S', updF (runS n L P S0 z k).2.1 i ((runS n L P S0 z k).2.1 i ++ [a1]), (runS n L P S0 z k).2.2 + 1) := by
  show (_, _, _) = _
  unfold turnS
  rw [hz]
  rw [if_pos ⟨by omega, by omega, by simpa using hl⟩]
  simp only [Int.toNat_natCast, hd, if_true]

theorem refRow {S : Ar} {hs : List Int} {ts : List Bool} {d : Nat} (hi : RfInv S hs ts) (hl : hs.length = ts.length) (hsz : S.size = d) (hsome : ∀ c, c < d → (S.get c).isSome = true) : hs.length = d ∧ hs.map (Value.int .u64) = (List.range d).map fun c => .int .u64 ((S.get c).getD 0) := by
  have h1 : ∀ c, c < d → c < ts.length ∧ S.get c = some (hs.getD c 0) := by
    intro c hc
    obtain ⟨v, hv⟩ := Option.isSome_iff_exists.1 (hsome c hc)
    obtain ⟨a, b, _⟩ := hi.lt hv
    exact ⟨a, by rw [hv, b]⟩
  have hlen : hs.length = d := by
    have := hi.cap
    refine Nat.le_antisymm (by omega) (Nat.le_of_not_lt fun h => ?_)
    have := (h1 hs.length h).1
    omega
  refine ⟨hlen, List.ext_getElem? fun c => ?_⟩
  by_cases hc : c < d
  · rw [List.getElem?_map, List.getElem?_map, List.getElem?_range hc, List.getElem?_eq_getElem (by omega)]
    simp only [Option.map_some]
    rw [(h1 c hc).2, List.getD_eq_getElem?_getD, List.getElem?_eq_getElem (by omega)]; rfl
  · rw [List.getElem?_eq_none (by simp; omega), List.getElem?_eq_none (by simp; omega)]

theorem ref_end {w wr : World} {r d n : Nat} {S : Ar} {v : Value} {ov : Nat → Value} {outs : Nat → List Int} (h : Has [] w wr ((Part.ref r S).sep (Part.outs v n ov outs))) (hsz : S.size = d) (hsome : ∀ c, c < d → (S.get c).isSome = true) :
    ∃ hv, wr.cell? ⟨r, 1, none⟩ = some hv ∧ Has [] w wr ((Part.outs v n ov outs).sep (.row 32 1 hv d ((List.range d).map fun c => .int .u64 ((S.get c).getD 0)))) := by
  obtain ⟨fp, ⟨f, g, ⟨hv, tv, hs, ts, hr, rfl, hi⟩, hO, hdj, rfl⟩, hn, k⟩ := h
  obtain ⟨e1, e2⟩ := refRow hi hr.len hsz hsome
  have hrow := hr.hrow
  rw [e1, e2] at hrow
  refine ⟨hv, hr.c1, g ++ rowsOf hv, ⟨g, rowsOf hv, hO, ⟨hrow, rfl⟩, fun x hx hx' => hdj x (by simp [hx']) hx, rfl⟩, fun x hx => hn x ?_, k⟩
  simp at hx ⊢
  rcases hx with h | h
  · exact .inr (.inr (.inr h))
  · exact .inr (.inl h)

end Go.Proofs.YtfipoadgfebibaaDoor
