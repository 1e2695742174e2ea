/- The walks of the reference's Alloc and Used. -/
import Derived.Test.YtfipoadgfebibaaDoorRefDo
namespace Go.Proofs.YtfipoadgfebibaaDoor
open Go Go.RowKit
set_option linter.unusedVariables false

theorem RfRep.drewN {w b hv tv size hs ts many} (h : RfRep w b hv tv size hs ts many) (n : Nat) : RfRep (w.drewN n) b hv tv size hs ts many :=
  ⟨h.blk.of_heap rfl, h.hrow, h.trow, h.hne, h.tne, h.apart, h.len, h.few⟩
theorem RfRep.drew {w b hv tv size hs ts many} (h : RfRep w b hv tv size hs ts many) : RfRep w.drew b hv tv size hs ts many :=
  ⟨h.blk.of_heap rfl, h.hrow, h.trow, h.hne, h.tne, h.apart, h.len, h.few⟩
theorem RfRep.alloc {w b hv tv size hs ts many} (h : RfRep w b hv tv size hs ts many) (o : Obj) : RfRep (w.alloc o) b hv tv size hs ts many :=
  ⟨h.blk.alloc o, h.hrow.alloc o, h.trow.alloc o, h.hne, h.tne, h.apart, h.len, h.few⟩

theorem RfRep.putMany {w b hv tv size hs ts many} (h : RfRep w b hv tv size hs ts many) (x : Int) : RfRep (w.setCell ⟨b, 3, none⟩ (.int .i64 x)) b hv tv size hs ts x := by
  refine ⟨(h.blk.set 3 _).congr ?_, row_other h.hrow _ h.hne, row_other h.trow _ h.tne, h.hne, h.tne, h.apart, h.len, h.few⟩
  intro j hj
  unfold upd rfF
  by_cases e : j = 3
  · subst e; simp
  · rw [if_neg e]
    repeat' split
    all_goals first | rfl | (exfalso; omega)

theorem RfRep.putHas {w b g n cap tv size hs ts many} (h : RfRep w b (.slice (some ⟨g, 0, none⟩) n cap) tv size hs ts many) (k : Nat) (x : Int) (hk : k < hs.length) :
    RfRep (w.setCell ⟨g, k, none⟩ (.int .u64 x)) b (.slice (some ⟨g, 0, none⟩) n cap) tv size (hs.set k x) ts many := by
  have hgb : g ≠ b := fun e => h.hne (by simp [Value.ownBlock, e])
  obtain ⟨hl, h1 | ⟨g', cap', cur, hv', _⟩⟩ := h.hrow
  · cases h1.1
  · cases hv'
    have := row_put h.hrow k (.int .u64 x) hk
    refine ⟨h.blk.other _ (by simpa using hgb), by simpa [List.map_set] using this, row_other h.trow _ (h.apart g rfl), h.hne, h.tne, h.apart, by simpa using h.len, by simpa using h.few⟩

theorem RfRep.putTaken {w b hv g n cap size hs ts many} (h : RfRep w b hv (.slice (some ⟨g, 0, none⟩) n cap) size hs ts many) (k : Nat) (t : Bool) (hk : k < ts.length) :
    RfRep (w.setCell ⟨g, k, none⟩ (.bool t)) b hv (.slice (some ⟨g, 0, none⟩) n cap) size hs (ts.set k t) many := by
  have hgb : g ≠ b := fun e => h.tne (by simp [Value.ownBlock, e])
  obtain ⟨hl, h1 | ⟨g', cap', cur, hv', _⟩⟩ := h.trow
  · cases h1.1
  · cases hv'
    have := row_put h.trow k (.bool t) hk
    have hap : hv.ownBlock ≠ some g := fun e => h.apart g e rfl
    refine ⟨h.blk.other _ (by simpa using hgb), row_other h.hrow _ hap, by simpa [List.map_set] using this, h.hne, h.tne, h.apart, by simpa using h.len, h.few⟩

theorem info_u64r : (Tryd.prog.info? 32).map (fun i => (i.zero, i.size, i.bytes)) = some (some (.int .u64 0), 1, 8) := by kernel_rfl
theorem info_bool : (Tryd.prog.info? 4).map (fun i => (i.zero, i.size, i.bytes)) = some (some (.bool false), 1, 1) := by kernel_rfl

/-- Behind the two appends. -/
theorem ralloc_done {w W1 w1 W2 w2 : World} {b : Nat} {hv tv tv' hv' : Value} {size : Int} {hs : List Int} {ts : List Bool} {many : Int} (hr : RfRep w b hv tv size hs ts many)
    (hW1 : W1 = w.alloc (.cells #[.bool true] 4)) (ha : Appended W1 w1 4 1 tv tv' (ts.length + 1) (ts.map Value.bool ++ [.bool true]))
    (hW2 : W2 = (w1.setCell ⟨b, 2, none⟩ tv').alloc (.cells #[.int .u64 0] 32)) (hb2 : Appended W2 w2 32 1 hv hv' (hs.length + 1) (hs.map (Value.int .u64) ++ [.int .u64 0])) (hf : hs.length + 1 ≤ 65536) :
    RfRep (w2.setCell ⟨b, 1, none⟩ hv') b hv' tv' size (hs ++ [0]) (ts ++ [true]) many ∧ Kept (b :: (rowsOf hv ++ rowsOf tv)) w (w2.setCell ⟨b, 1, none⟩ hv') ∧
      (∀ k, hv'.ownBlock = some k → hv.ownBlock = some k ∨ w.heap.size ≤ k) ∧ (∀ k, tv'.ownBlock = some k → tv.ownBlock = some k ∨ w.heap.size ≤ k) ∧
      w1.cell? ⟨b, 2, none⟩ = some tv ∧ (∀ i, w1.frozen? ⟨b, i, none⟩ = false) ∧ w1.cell? ⟨b, 1, none⟩ = some hv ∧ w2.cell? ⟨b, 1, none⟩ = some hv ∧ w2.cell? ⟨b, 2, none⟩ = some tv' ∧ (∀ i, w2.frozen? ⟨b, i, none⟩ = false) ∧
      W2.ownsRow 0 32 1 hv hs.length (hs.map (Value.int .u64)) := by
  have hr1 := hr.alloc (.cells #[.bool true] 4)
  rw [← hW1] at hr1
  have e1 : w1.heap[b]? = W1.heap[b]? := ha.grown.block b hr1.blk.lt (fun e => hr1.tne e.symm)
  have hblk1 := hr1.blk.of_heap e1
  have hs1 : W1.heap.size = w.heap.size + 1 := by rw [hW1]; simp
  have hpt : ∀ k, tv'.ownBlock = some k → tv.ownBlock = some k ∨ k = w.heap.size + 1 := by
    intro k hk
    rcases ha.place with e | e
    · left; rw [← e]; exact hk
    · right; rw [hk] at e; simp at e; omega
  have hblt := hr.blk.lt
  have htb : tv'.ownBlock ≠ some b := by
    intro e
    rcases hpt b e with h | h
    · exact hr.tne h
    · omega
  have hhlt : ∀ k, hv.ownBlock = some k → k < w.heap.size := fun k hk => (hr.hrow.lt k hk).2
  have hrow1 : w1.ownsRow 0 32 1 hv hs.length (hs.map (Value.int .u64)) := by
    refine hr1.hrow.kept ha.grown ?_
    cases hho : hv.ownBlock with
    | none => exact .inl rfl
    | some k => exact .inr fun e => hr.apart k hho e.symm
  have hrow2 : W2.ownsRow 0 32 1 hv hs.length (hs.map (Value.int .u64)) := by
    rw [hW2]
    exact (row_other hrow1 _ hr.hne).alloc _
  have hblk2 : Blk W2 b 4 63 (rfF size hv tv' many) := by
    rw [hW2]
    refine ((hblk1.set 2 tv').congr ?_).alloc _
    intro j hj
    unfold upd rfF
    by_cases e : j = 2
    · subst e; simp
    · rw [if_neg e]
      repeat' split
      all_goals first | rfl | (exfalso; omega)
  have hs2 : W2.heap.size = w1.heap.size + 1 := by rw [hW2]; simp
  have hg1 := ha.grown.size
  have htrow2 : W2.ownsRow 0 4 1 tv' (ts.length + 1) (ts.map Value.bool ++ [.bool true]) := by
    rw [hW2]
    exact (row_other ha.row _ htb).alloc _
  have htlt : ∀ k, tv'.ownBlock = some k → k < w1.heap.size := fun k hk => (ha.row.lt k hk).2
  have hph : ∀ k, hv'.ownBlock = some k → hv.ownBlock = some k ∨ k = w1.heap.size + 1 := by
    intro k hk
    rcases hb2.place with e | e
    · left; rw [← e]; exact hk
    · right; rw [hk] at e; simp at e; omega
  have hhb : hv'.ownBlock ≠ some b := by
    intro e
    rcases hph b e with h | h
    · exact hr.hne h
    · omega
  have hap : ∀ k, hv'.ownBlock = some k → tv'.ownBlock ≠ some k := by
    intro k hk ht
    have := htlt k ht
    rcases hph k hk with h | h
    · rcases hpt k ht with h' | h'
      · exact hr.apart k h h'
      · have := hhlt k h; omega
    · omega
  have e2 : w2.heap[b]? = W2.heap[b]? := hb2.grown.block b hblk2.lt (fun e => hr.hne e.symm)
  have hblk3 := hblk2.of_heap e2
  have htrow3 : w2.ownsRow 0 4 1 tv' (ts.length + 1) (ts.map Value.bool ++ [.bool true]) := by
    refine htrow2.kept hb2.grown ?_
    cases hho : tv'.ownBlock with
    | none => exact .inl rfl
    | some k =>
      refine .inr fun e => ?_
      have h1 := hhlt k e.symm
      rcases hpt k hho with h | h
      · exact hr.apart k e.symm h
      · omega
  have hk1 : Kept (b :: (rowsOf hv ++ rowsOf tv)) w w1 := by
    have k0 : Kept (b :: (rowsOf hv ++ rowsOf tv)) w W1 := by rw [hW1]; exact (Kept.refl _ w).alloc _
    exact k0.grown ha.grown (fun k _ e => by simp [mem_rowsOf, e])
  have hk2 : Kept (b :: (rowsOf hv ++ rowsOf tv)) w W2 := by
    rw [hW2]
    exact (hk1.set _ (by simp)).alloc _
  have hk3 : Kept (b :: (rowsOf hv ++ rowsOf tv)) w w2 := hk2.grown hb2.grown (fun k _ e => by simp [mem_rowsOf, e])
  have hk4 : Kept (b :: (rowsOf hv ++ rowsOf tv)) w (w2.setCell ⟨b, 1, none⟩ hv') := hk3.set _ (by simp)
  refine ⟨⟨?_, ?_, ?_, hhb, htb, hap, ?_, ?_⟩, hk4, ?_, ?_, hblk1.cell (i := 2) (by omega), hblk1.free, hblk1.cell (i := 1) (by omega), hblk3.cell (i := 1) (by omega), hblk3.cell (i := 2) (by omega), hblk3.free, hrow2⟩
  · refine (hblk3.set 1 hv').congr ?_
    intro j hj
    unfold upd rfF
    by_cases e : j = 1
    · subst e; simp
    · rw [if_neg e, if_neg (c := j = 1) e]
      repeat' split
      all_goals first | rfl | (exfalso; omega)
  · have := row_other hb2.row (a := ⟨b, 1, none⟩) hv' hhb
    simpa using this
  · have := row_other htrow3 (a := ⟨b, 1, none⟩) hv' htb
    simpa using this
  · simp [hr.len]
  · simpa using hf
  · intro k hk
    rcases hph k hk with h | h
    · exact .inl h
    · right; omega
  · intro k hk
    rcases hpt k hk with h | h
    · exact .inl h
    · right; omega

end Go.Proofs.YtfipoadgfebibaaDoor
