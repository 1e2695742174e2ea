/- The variables of a sweep that goes along a chain, in memory; the walks of its piles' put.
The walks of a chain's steps: the words of each version are read, one behind the other.
The walks of a store's stores and swaps.
The walk of Push, where it can.
The walk of away, and what it leaves; the walk of Chain.
The walks of Txn and Forget. -/
import Derived.Test.YtbodobdllchmgaaDoorMBetween5
import Derived.Test.YtbodobdllchmgaaDoorMBetween4
import Derived.Deep.RegionHeld3
namespace Go.Proofs.YtbodobdllchmgaaDoor
open Go Go.RowKit
set_option linter.unusedVariables false

variable {o : List Nat} {w0 w : World}

/-- Words that a slice owns. -/
noncomputable def Part.u64s (v : Value) (l : List Int) : Part := .row 56 1 v l.length (l.map (Value.int .u64))

/-- A pile of numbers: the variable and its row. -/
noncomputable def Part.pileI (c : Nat) (l : List Int) : Part := .ex fun v : Value => (Part.blk c 1 119 fun _ => v).sep (.ints v l)
/-- A pile of words. -/
noncomputable def Part.pileW (c : Nat) (l : List Int) : Part := .ex fun v : Value => (Part.blk c 1 120 fun _ => v).sep (.u64s v l)
/-- A variable. -/
noncomputable def Part.box (c : Nat) (T : TypeId) (v : Value) : Part := .blk c 1 T fun _ => v

theorem blk_one {c : Nat} {T : TypeId} {f : Nat → Value} {u : Value} (h : Blk w c 1 T (upd f 0 u)) : Blk w c 1 T fun _ => u := by
  refine h.congr fun i hi => ?_
  obtain rfl : i = 0 := by omega
  rfl

theorem u64_ints {v : Value} {l : List Int} (h : Has o w0 w (Part.u64s v l)) : ∃ p c, v = .slice p l.length c ∧ l.length ≤ c ∧ c ≤ maxLen ∧ (p = none → c = 0) := by
  obtain ⟨fp, ⟨hr, _⟩, _⟩ := h
  rcases row_val hr with ⟨e, h0⟩ | ⟨g, c, e, h1, h2, _⟩
  · exact ⟨none, 0, by rw [h0]; exact e, by omega, Nat.zero_le _, fun _ => rfl⟩
  · exact ⟨_, c, e, h1, h2, fun e => by cases e⟩

set_option maxHeartbeats 2000000 in
set_option maxRecDepth 100000 in
theorem putI_walk {c : Nat} {l : List Int} (h : Has o w0 w (.pileI c l)) (x : Int) (hl : l.length ≤ 1000000) :
    Calls Tryd.prog 73 #[Pt c, .int .i64 x] w fun e w' => e = .returned (.tuple #[]) ∧ Has o w0 w' (.pileI c (l ++ [x])) := by
  obtain ⟨v, h⟩ := h.exOut
  obtain ⟨i0, hi0, hz0, hz1, hz2⟩ := info_parts info_int
  obtain ⟨_, h1, _⟩ := h.left
  obtain ⟨c0, z0, _⟩ := h1.blkAt (i := 0) (by omega)
  obtain ⟨o2, h2, _, _, b2⟩ := h.right
  have HB := Lib.hid b2
  have HI := Lib.hid h2
  obtain ⟨p, cp, hv⟩ := ap_ints h2
  have hrow := (ap_row h2)
  have HROW := Lib.hid ((ap_row (h2.alloc (.cells #[.int .i64 x] 3))))
  subst hv
  clear h h1 h2 hrow b2
  go_enter Tryd.func73, Tryd.ntmps73
  go_wp2_with (at_builtin; refine wpList_append_new rfl (.tmp 7) (.tmp 9) 119 rfl 3 i0 (.int .i64 0) 1 8 Tryd.underlying119 hi0 hz0 hz1 hz2 rfl (by decide) _ _ _ rfl HROW.out ⟨w.heap.size, 0, none⟩ 1 1 [.int .i64 x] rfl rfl (cell_one w w.heap.size _ _ rfl) (by intro u hu; simp at hu; subst hu; rfl) (by simp only [maxLen]; omega) (by omega) ?_)
  intro v' w5 happ
  have hX := HB.out w5 (.ints v' (l ++ [x])) (by
    have := HI.out.appendRow (m := 1) (news := [.int .i64 x]) _ happ
    unfold Part.ints
    rw [List.length_append, List.map_append]
    exact this)
  obtain ⟨_, h1, _, _, b1⟩ := hX.left
  obtain ⟨c1, z1, s1⟩ := h1.blkAt (i := 0) (by omega)
  have hF := b1 _ _ (s1 v')
  have HF := Lib.hid hF
  obtain ⟨p', cp', hv'⟩ := (show ∃ p c, v' = .slice p (l.length + 1) c from by
    obtain ⟨_, h2, _⟩ := hX.right
    obtain ⟨p, c, e⟩ := ap_ints h2
    exact ⟨p, c, by rw [e]; simp⟩)
  subst hv'
  clear hX hF happ b1 s1 h1
  go_wp2_with fail
  go_end0
  refine ⟨rfl, Has.exIn (.slice p' (l.length + 1) cp') (HF.out.mono ?_)⟩
  rintro fp ⟨f, g, ⟨hb, rfl⟩, hr, hd, rfl⟩
  exact ⟨[c], g, ⟨blk_one hb, rfl⟩, hr, hd, rfl⟩

set_option maxHeartbeats 2000000 in
set_option maxRecDepth 100000 in
theorem putW_walk {c : Nat} {l : List Int} (h : Has o w0 w (.pileW c l)) (x : Int) (hl : l.length ≤ 1000000) :
    Calls Tryd.prog 74 #[Pt c, .int .u64 x] w fun e w' => e = .returned (.tuple #[]) ∧ Has o w0 w' (.pileW c (l ++ [x])) := by
  obtain ⟨v, h⟩ := h.exOut
  obtain ⟨i0, hi0, hz0, hz1, hz2⟩ := info_parts info_u64
  obtain ⟨_, h1, _⟩ := h.left
  obtain ⟨c0, z0, _⟩ := h1.blkAt (i := 0) (by omega)
  obtain ⟨o2, h2, _, _, b2⟩ := h.right
  have HB := Lib.hid b2
  have HI := Lib.hid h2
  obtain ⟨p, cp, hv, _⟩ := u64_ints h2
  have HROW := Lib.hid (show (w.alloc (.cells #[.int .u64 x] 56)).ownsRow 0 56 1 v l.length (l.map (Value.int .u64)) from by
    obtain ⟨fp, ⟨hr, _⟩, _⟩ := h2.alloc (.cells #[.int .u64 x] 56); exact hr)
  subst hv
  clear h h1 h2 b2
  go_enter Tryd.func74, Tryd.ntmps74
  go_wp2_with (at_builtin; refine wpList_append_new rfl (.tmp 7) (.tmp 9) 120 rfl 56 i0 (.int .u64 0) 1 8 Tryd.underlying120 hi0 hz0 hz1 hz2 rfl (by decide) _ _ _ rfl HROW.out ⟨w.heap.size, 0, none⟩ 1 1 [.int .u64 x] rfl rfl (cell_one w w.heap.size _ _ rfl) (by intro u hu; simp at hu; subst hu; rfl) (by simp only [maxLen]; omega) (by omega) ?_)
  intro v' w5 happ
  have hX := HB.out w5 (.u64s v' (l ++ [x])) (by
    have := HI.out.appendRow (m := 1) (news := [.int .u64 x]) _ happ
    unfold Part.u64s
    rw [List.length_append, List.map_append]
    exact this)
  obtain ⟨_, h1, _, _, b1⟩ := hX.left
  obtain ⟨c1, z1, s1⟩ := h1.blkAt (i := 0) (by omega)
  have hF := b1 _ _ (s1 v')
  have HF := Lib.hid hF
  obtain ⟨p', cp', hv'⟩ := (show ∃ p c, v' = .slice p (l.length + 1) c from by
    obtain ⟨_, h2, _⟩ := hX.right
    obtain ⟨p, c, e, _⟩ := u64_ints h2
    exact ⟨p, c, by rw [e]; simp⟩)
  subst hv'
  clear hX hF happ b1 s1 h1
  go_wp2_with fail
  go_end0
  refine ⟨rfl, Has.exIn (.slice p' (l.length + 1) cp') (HF.out.mono ?_)⟩
  rintro fp ⟨f, g, ⟨hb, rfl⟩, hr, hd, rfl⟩
  exact ⟨[c], g, ⟨blk_one hb, rfl⟩, hr, hd, rfl⟩

/-- The closures of a chain's steps over the variables from block B on. -/
def fLost (B : Nat) : Value := .func (.func 71) #[] #[Pt B]
def fBeg (B : Nat) : Value := .func (.func 72) #[] #[Pt B, Pt (B + 5), Pt (B + 9), Pt (B + 2), Pt (B + 3), Pt (B + 7)]
def fEnd (B : Nat) : Value := .func (.func 75) #[] #[Pt B, Pt (B + 5), Pt (B + 9), Pt (B + 4), Pt (B + 8)]
def fBeh (B : Nat) : Value := .func (.func 76) #[] #[Pt B, Pt (B + 5), Pt (B + 9), Pt (B + 6), Pt (B + 1), Pt (B + 2), Pt (B + 3), Pt (B + 4)]
def fTake (B : Nat) : Value := .func (.func 78) #[] #[Pt B, Pt (B + 1), Pt (B + 2), Pt (B + 3), Pt (B + 4)]
def fNode (ob : Nat) : Value := .func (.func 32) #[Pt ob] #[]

noncomputable def envP (B ob : Nat) (n at_ : Int) (vs bs es : List Int) (k : Nat) : Part :=
  if k = 0 then .box (B + 0) 24 (Pt ob) else if k = 1 then .box (B + 1) 3 (.int .i64 n) else if k = 2 then .pileI (B + 2) vs else if k = 3 then .pileW (B + 3) bs else if k = 4 then .pileW (B + 4) es
  else if k = 5 then .box (B + 5) 3 (.int .i64 at_) else if k = 6 then .box (B + 6) 23 (fBeg B) else if k = 7 then .box (B + 7) 23 (fEnd B) else if k = 8 then .box (B + 8) 23 (fBeh B) else .box (B + 9) 23 (fLost B)
noncomputable def Part.env (B ob : Nat) (n at_ : Int) (vs bs es : List Int) : Part := .all 10 (envP B ob n at_ vs bs es)

variable {b ob B : Nat} {A : ASt} {cur fv nv : Value} {mark gone n at_ : Int} {dn : Bool} {l vs bs es : List Int}

theorem Has.boxCell {c : Nat} {T : TypeId} {v : Value} (h : Has o w0 w (.box c T v)) : w.cell? ⟨c, 0, none⟩ = some v ∧ w.frozen? ⟨c, 0, none⟩ = false := by
  obtain ⟨a, b, _⟩ := Has.blkAt (i := 0) h (by omega)
  exact ⟨a, b⟩
theorem Has.boxSet {c : Nat} {T : TypeId} {v : Value} (h : Has o w0 w (.box c T v)) (u : Value) : Has o w0 (w.setCell ⟨c, 0, none⟩ u) (.box c T u) := by
  obtain ⟨_, _, s⟩ := Has.blkAt (i := 0) h (by omega)
  refine (s u).mono ?_
  rintro fp ⟨hb, rfl⟩
  exact ⟨blk_one hb, rfl⟩
theorem env_cells (h : Has o w0 w (.env B ob n at_ vs bs es)) :
    w.cell? ⟨B, 0, none⟩ = some (Pt ob) ∧ w.cell? ⟨B + 1, 0, none⟩ = some (.int .i64 n) ∧ w.cell? ⟨B + 5, 0, none⟩ = some (.int .i64 at_) ∧ w.frozen? ⟨B + 5, 0, none⟩ = false ∧ w.cell? ⟨B + 6, 0, none⟩ = some (fBeg B) ∧
      w.cell? ⟨B + 7, 0, none⟩ = some (fEnd B) ∧ w.cell? ⟨B + 8, 0, none⟩ = some (fBeh B) := by
  obtain ⟨_, h0, _⟩ := Has.pick h (i := 0) (by omega)
  obtain ⟨_, h1, _⟩ := Has.pick h (i := 1) (by omega)
  obtain ⟨_, h5, _⟩ := Has.pick h (i := 5) (by omega)
  obtain ⟨_, h6, _⟩ := Has.pick h (i := 6) (by omega)
  obtain ⟨_, h7, _⟩ := Has.pick h (i := 7) (by omega)
  obtain ⟨_, h8, _⟩ := Has.pick h (i := 8) (by omega)
  exact ⟨(Has.boxCell (c := B + 0) h0).1, (Has.boxCell (c := B + 1) h1).1, (Has.boxCell (c := B + 5) h5).1, (Has.boxCell (c := B + 5) h5).2, (Has.boxCell (c := B + 6) h6).1, (Has.boxCell (c := B + 7) h7).1, (Has.boxCell (c := B + 8) h8).1⟩

theorem envP_two (l' : List Int) (k : Nat) (hk : k < 10) : updP (envP B ob n at_ vs bs es) 2 (.pileI (B + 2) l') k = envP B ob n at_ l' bs es k := by
  unfold updP envP
  rcases (by omega : k = 0 ∨ k = 1 ∨ k = 2 ∨ k = 3 ∨ k = 4 ∨ k = 5 ∨ k = 6 ∨ k = 7 ∨ k = 8 ∨ k = 9) with rfl | rfl | rfl | rfl | rfl | rfl | rfl | rfl | rfl | rfl <;> rfl
theorem envP_three (l' : List Int) (k : Nat) (hk : k < 10) : updP (envP B ob n at_ vs bs es) 3 (.pileW (B + 3) l') k = envP B ob n at_ vs l' es k := by
  unfold updP envP
  rcases (by omega : k = 0 ∨ k = 1 ∨ k = 2 ∨ k = 3 ∨ k = 4 ∨ k = 5 ∨ k = 6 ∨ k = 7 ∨ k = 8 ∨ k = 9) with rfl | rfl | rfl | rfl | rfl | rfl | rfl | rfl | rfl | rfl <;> rfl
theorem envP_four (l' : List Int) (k : Nat) (hk : k < 10) : updP (envP B ob n at_ vs bs es) 4 (.pileW (B + 4) l') k = envP B ob n at_ vs bs l' k := by
  unfold updP envP
  rcases (by omega : k = 0 ∨ k = 1 ∨ k = 2 ∨ k = 3 ∨ k = 4 ∨ k = 5 ∨ k = 6 ∨ k = 7 ∨ k = 8 ∨ k = 9) with rfl | rfl | rfl | rfl | rfl | rfl | rfl | rfl | rfl | rfl <;> rfl
theorem envP_five (a : Int) (k : Nat) (hk : k < 10) : updP (envP B ob n at_ vs bs es) 5 (.box (B + 5) 3 (.int .i64 a)) k = envP B ob n a vs bs es k := by
  unfold updP envP
  rcases (by omega : k = 0 ∨ k = 1 ∨ k = 2 ∨ k = 3 ∨ k = 4 ∨ k = 5 ∨ k = 6 ∨ k = 7 ∨ k = 8 ∨ k = 9) with rfl | rfl | rfl | rfl | rfl | rfl | rfl | rfl | rfl | rfl <;> rfl

/-- A sweep under way along a chain. -/
noncomputable def Part.swc (b ob B : Nat) (A : ASt) (cur : Value) (mark : Int) (fv : Value) (gone : Int) (nv : Value) (l : List Int) (n at_ : Int) (vs bs es : List Int) : Part :=
  (Part.sw b ob A cur mark fv gone false nv l).sep (.env B ob n at_ vs bs es)

theorem swc_env (h : Has o w0 w (.swc b ob B A cur mark fv gone nv l n at_ vs bs es)) : ∃ o', Has o' w w (.env B ob n at_ vs bs es) := by
  obtain ⟨o1, h1, _⟩ := Has.right (A := .sw b ob A cur mark fv gone false nv l) h
  exact ⟨o1, h1⟩
theorem swc_fields (h : Has o w0 w (.swc b ob B A cur mark fv gone nv l n at_ vs bs es)) :
    w.cell? ⟨ob, 0, none⟩ = some (Pt b) ∧ w.cell? ⟨ob, 1, none⟩ = some cur ∧ w.cell? ⟨ob, 2, none⟩ = some (.int .i64 mark) ∧ w.cell? ⟨ob, 3, none⟩ = some fv ∧ w.cell? ⟨ob, 4, none⟩ = some (.int .i64 gone) ∧ w.cell? ⟨ob, 5, none⟩ = some (.bool false) ∧ ∀ i, i < 6 → w.frozen? ⟨ob, i, none⟩ = false := by
  obtain ⟨_, h1, _⟩ := Has.left (A := .sw b ob A cur mark fv gone false nv l) h
  exact sw_fields h1
theorem swc_store (h : Has o w0 w (.swc b ob B A cur mark fv gone nv l n at_ vs bs es)) : ∃ o', Has o' w w (.store b A) ∧ (∀ y ∈ o', y ∈ o ∨ w0.heap.size ≤ y) ∧ ∀ w' A', Has o' w w' (.store b A') → Has o w0 w' (.swc b ob B A' cur mark fv gone nv l n at_ vs bs es) := by
  obtain ⟨o1, h1, p1, _, b1⟩ := Has.left (A := .sw b ob A cur mark fv gone false nv l) h
  obtain ⟨o2, h2, p2, b2⟩ := sw_store h1
  refine ⟨o2, h2, fun y hy => ?_, fun w' A' h' => b1 _ _ (b2 _ _ h')⟩
  rcases p2 y hy with h5 | h5
  · exact p1 y h5
  · right; have := h1.keeps.size; have := h.keeps.size; omega
theorem swc_next (h : Has o w0 w (.swc b ob B A cur mark fv gone nv l n at_ vs bs es)) (fv' : Value) : Has o w0 (w.setCell ⟨ob, 3, none⟩ fv') (.swc b ob B A cur mark fv' gone nv l n at_ vs bs es) := by
  obtain ⟨o1, h1, p1, _, b1⟩ := Has.left (A := .sw b ob A cur mark fv gone false nv l) h
  exact b1 _ _ (sw_put h1 cur fv' gone false 3 _ (by omega) ((opF_upd (Pt b) cur mark fv gone false).2.1 fv'))
theorem swc_at (h : Has o w0 w (.swc b ob B A cur mark fv gone nv l n at_ vs bs es)) (a : Int) : Has o w0 (w.setCell ⟨B + 5, 0, none⟩ (.int .i64 a)) (.swc b ob B A cur mark fv gone nv l n a vs bs es) := by
  obtain ⟨o1, h1, p1, _, b1⟩ := Has.right (A := .sw b ob A cur mark fv gone false nv l) h
  obtain ⟨o2, h2, p2, _, b2⟩ := Has.pick h1 (i := 5) (by omega)
  exact b1 _ _ (Has.congr (b2 _ _ (Has.boxSet (c := B + 5) h2 (.int .i64 a))) (envP_five a))
theorem swc_putI (h : Has o w0 w (.swc b ob B A cur mark fv gone nv l n at_ vs bs es)) (x : Int) (hl : vs.length ≤ 1000000) :
    Calls Tryd.prog 73 #[Pt (B + 2), .int .i64 x] w fun e w' => e = .returned (.tuple #[]) ∧ Has o w0 w' (.swc b ob B A cur mark fv gone nv l n at_ (vs ++ [x]) bs es) := by
  obtain ⟨o1, h1, p1, _, b1⟩ := Has.right (A := .sw b ob A cur mark fv gone false nv l) h
  obtain ⟨o2, h2, p2, _, b2⟩ := Has.pick h1 (i := 2) (by omega)
  refine (putI_walk (c := B + 2) (l := vs) h2 x hl).mono ?_
  rintro e w' ⟨rfl, h'⟩
  exact ⟨rfl, b1 _ _ (Has.congr (b2 _ _ h') (envP_two _))⟩
theorem swc_putB (h : Has o w0 w (.swc b ob B A cur mark fv gone nv l n at_ vs bs es)) (x : Int) (hl : bs.length ≤ 1000000) :
    Calls Tryd.prog 74 #[Pt (B + 3), .int .u64 x] w fun e w' => e = .returned (.tuple #[]) ∧ Has o w0 w' (.swc b ob B A cur mark fv gone nv l n at_ vs (bs ++ [x]) es) := by
  obtain ⟨o1, h1, p1, _, b1⟩ := Has.right (A := .sw b ob A cur mark fv gone false nv l) h
  obtain ⟨o2, h2, p2, _, b2⟩ := Has.pick h1 (i := 3) (by omega)
  refine (putW_walk (c := B + 3) (l := bs) h2 x hl).mono ?_
  rintro e w' ⟨rfl, h'⟩
  exact ⟨rfl, b1 _ _ (Has.congr (b2 _ _ h') (envP_three _))⟩
theorem swc_putE (h : Has o w0 w (.swc b ob B A cur mark fv gone nv l n at_ vs bs es)) (x : Int) (hl : es.length ≤ 1000000) :
    Calls Tryd.prog 74 #[Pt (B + 4), .int .u64 x] w fun e w' => e = .returned (.tuple #[]) ∧ Has o w0 w' (.swc b ob B A cur mark fv gone nv l n at_ vs bs (es ++ [x])) := by
  obtain ⟨o1, h1, p1, _, b1⟩ := Has.right (A := .sw b ob A cur mark fv gone false nv l) h
  obtain ⟨o2, h2, p2, _, b2⟩ := Has.pick h1 (i := 4) (by omega)
  refine (putW_walk (c := B + 4) (l := es) h2 x hl).mono ?_
  rintro e w' ⟨rfl, h'⟩
  exact ⟨rfl, b1 _ _ (Has.congr (b2 _ _ h') (envP_four _))⟩
theorem Has.madeBox (w : World) (T : TypeId) (v : Value) : Has [] w (w.alloc (.cells #[v] T)) (.box w.heap.size T v) :=
  Has.madeBlk #[v] T (fun _ => v) 1 rfl fun i hi => by obtain rfl : i = 0 := by omega
                                                       rfl
theorem Has.nilW (w : World) : Has [] w w (.u64s (.slice none 0 0) []) := ⟨[], ⟨World.ownsRow_nil _ _ _ _, by simp [rowsOf, Value.ownBlock]⟩, by simp, Kept.refl _ _⟩
theorem Has.madePileI (w : World) : Has [] w (w.alloc (.cells #[.slice none 0 0] 119)) (.pileI w.heap.size []) :=
  Has.exIn (.slice none 0 0) ((Has.madeBox w _ _).beside (Has.nilInts _))
theorem Has.madePileW (w : World) : Has [] w (w.alloc (.cells #[.slice none 0 0] 120)) (.pileW w.heap.size []) :=
  Has.exIn (.slice none 0 0) ((Has.madeBox w _ _).beside (Has.nilW _))
end Go.Proofs.YtbodobdllchmgaaDoor
namespace Go.Proofs.YtbodobdllchmgaaDoor
open Go Go.RowKit
set_option linter.unusedVariables false

variable {o : List Nat} {w0 w : World} {b ob B : Nat} {A : ASt} {cur fv nv : Value} {mark gone n at_ : Int} {dn : Bool} {l vs bs es : List Int}

theorem kept_ten (w : World) (v0 v1 v2 v3 v4 v5 v6 v7 v8 v9 : Obj) : Kept [] w ((((((((((w.alloc v0).alloc v1).alloc v2).alloc v3).alloc v4).alloc v5).alloc v6).alloc v7).alloc v8).alloc v9) :=
  ((((((((((Kept.refl [] w).alloc _).alloc _).alloc _).alloc _).alloc _).alloc _).alloc _).alloc _).alloc _).alloc _

theorem env_made (w : World) (n hd_ : Int) (W1 W2 W3 W4 W5 W6 W7 W8 W9 : World) (h1 : W1 = w.alloc (.cells #[Pt ob] 24)) (h2 : W2 = W1.alloc (.cells #[.int .i64 n] 3)) (h3 : W3 = W2.alloc (.cells #[.slice none 0 0] 119))
    (h4 : W4 = W3.alloc (.cells #[.slice none 0 0] 120)) (h5 : W5 = W4.alloc (.cells #[.slice none 0 0] 120)) (h6 : W6 = W5.alloc (.cells #[.int .i64 hd_] 3))
    (h7 : W7 = W6.alloc (.cells #[fBeg w.heap.size] 23)) (h8 : W8 = W7.alloc (.cells #[fEnd w.heap.size] 23)) (h9 : W9 = W8.alloc (.cells #[fBeh w.heap.size] 23)) :
    Has [] w (W9.alloc (.cells #[fLost w.heap.size] 23)) (.env w.heap.size ob n hd_ [] [] []) := by
  have s1 : W1.heap.size = w.heap.size + 1 := by rw [h1]; simp
  have s2 : W2.heap.size = w.heap.size + 2 := by rw [h2]; simp; omega
  have s3 : W3.heap.size = w.heap.size + 3 := by rw [h3]; simp; omega
  have s4 : W4.heap.size = w.heap.size + 4 := by rw [h4]; simp; omega
  have s5 : W5.heap.size = w.heap.size + 5 := by rw [h5]; simp; omega
  have s6 : W6.heap.size = w.heap.size + 6 := by rw [h6]; simp; omega
  have s7 : W7.heap.size = w.heap.size + 7 := by rw [h7]; simp; omega
  have s8 : W8.heap.size = w.heap.size + 8 := by rw [h8]; simp; omega
  have s9 : W9.heap.size = w.heap.size + 9 := by rw [h9]; simp; omega
  have e0 : Has [] w W1 (envP w.heap.size ob n hd_ [] [] [] 0) := by rw [h1]; exact Has.madeBox w _ _
  have e1 : Has [] W1 W2 (envP w.heap.size ob n hd_ [] [] [] 1) := by rw [h2]; have := Has.madeBox W1 3 (.int .i64 n); rw [s1] at this; exact this
  have e2 : Has [] W2 W3 (envP w.heap.size ob n hd_ [] [] [] 2) := by rw [h3]; have := Has.madePileI W2; rw [s2] at this; exact this
  have e3 : Has [] W3 W4 (envP w.heap.size ob n hd_ [] [] [] 3) := by rw [h4]; have := Has.madePileW W3; rw [s3] at this; exact this
  have e4 : Has [] W4 W5 (envP w.heap.size ob n hd_ [] [] [] 4) := by rw [h5]; have := Has.madePileW W4; rw [s4] at this; exact this
  have e5 : Has [] W5 W6 (envP w.heap.size ob n hd_ [] [] [] 5) := by rw [h6]; have := Has.madeBox W5 3 (.int .i64 hd_); rw [s5] at this; exact this
  have e6 : Has [] W6 W7 (envP w.heap.size ob n hd_ [] [] [] 6) := by rw [h7]; have := Has.madeBox W6 23 (fBeg w.heap.size); rw [s6] at this; exact this
  have e7 : Has [] W7 W8 (envP w.heap.size ob n hd_ [] [] [] 7) := by rw [h8]; have := Has.madeBox W7 23 (fEnd w.heap.size); rw [s7] at this; exact this
  have e8 : Has [] W8 W9 (envP w.heap.size ob n hd_ [] [] [] 8) := by rw [h9]; have := Has.madeBox W8 23 (fBeh w.heap.size); rw [s8] at this; exact this
  have e9 : Has [] W9 (W9.alloc (.cells #[fLost w.heap.size] 23)) (envP w.heap.size ob n hd_ [] [] [] 9) := by have := Has.madeBox W9 23 (fLost w.heap.size); rw [s9] at this; exact this
  exact ((((((((((Has.nothing (w := w) (envP w.heap.size ob n hd_ [] [] [])).more e0).more e1).more e2).more e3).more e4).more e5).more e6).more e7).more e8).more e9

set_option maxHeartbeats 2000000 in
set_option maxRecDepth 100000 in
/-- The steps along a chain begin. -/
theorem chain_begins (h : Has o w0 w (.sw b ob A cur mark fv gone false nv l)) (n hd_ : Int) :
    Calls Tryd.prog 56 #[Pt ob, .int .i64 n, .int .i64 hd_] w fun e w' => e = .returned (.tuple #[]) ∧ ∃ B, Has o w0 w' (.swc b ob B A cur mark (fBeg B) gone nv l n hd_ [] [] []) := by
  obtain ⟨_, _, _, c3, _, _, zf⟩ := sw_fields h
  have hb : ob < w.heap.size := by
    obtain ⟨_, h1, _⟩ := Has.right (A := .store b A) h
    obtain ⟨_, h2, _⟩ := h1.left
    obtain ⟨fp, ⟨hb, _⟩, _⟩ := h2
    exact hb.lt
  have k10 := kept_ten w (.cells #[Pt ob] 24) (.cells #[.int .i64 n] 3) (.cells #[.slice none 0 0] 119) (.cells #[.slice none 0 0] 120) (.cells #[.slice none 0 0] 120) (.cells #[.int .i64 hd_] 3) (.cells #[.func (.func 72) #[] #[Pt w.heap.size, Pt (w.heap.size + 1 + 1 + 1 + 1 + 1), Pt (w.heap.size + 1 + 1 + 1 + 1 + 1 + 1 + 1 + 1 + 1), Pt (w.heap.size + 1 + 1), Pt (w.heap.size + 1 + 1 + 1), Pt (w.heap.size + 1 + 1 + 1 + 1 + 1 + 1 + 1)]] 23) (.cells #[.func (.func 75) #[] #[Pt w.heap.size, Pt (w.heap.size + 1 + 1 + 1 + 1 + 1), Pt (w.heap.size + 1 + 1 + 1 + 1 + 1 + 1 + 1 + 1 + 1), Pt (w.heap.size + 1 + 1 + 1 + 1), Pt (w.heap.size + 1 + 1 + 1 + 1 + 1 + 1 + 1 + 1)]] 23) (.cells #[.func (.func 76) #[] #[Pt w.heap.size, Pt (w.heap.size + 1 + 1 + 1 + 1 + 1), Pt (w.heap.size + 1 + 1 + 1 + 1 + 1 + 1 + 1 + 1 + 1), Pt (w.heap.size + 1 + 1 + 1 + 1 + 1 + 1), Pt (w.heap.size + 1), Pt (w.heap.size + 1 + 1), Pt (w.heap.size + 1 + 1 + 1), Pt (w.heap.size + 1 + 1 + 1 + 1)]] 23) (.cells #[.func (.func 71) #[] #[Pt w.heap.size]] 23)
  have d3 := k10.cell c3 (by simp)
  have z3 := k10.frozen (i := 3) hb (by simp)
  rw [zf 3 (by omega)] at z3
  have HF := Lib.hid (swc_next (show Has o w0 _ (.swc b ob w.heap.size A cur mark fv gone nv l n hd_ [] [] []) from h.beside (env_made (ob := ob) w n hd_ _ _ _ _ _ _ _ _ _ rfl rfl rfl rfl rfl rfl rfl rfl rfl)) (fBeg w.heap.size))
  clear h zf c3 k10
  go_enter Tryd.func56, Tryd.ntmps56
  go_wp2_with fail
  go_end0
  exact ⟨rfl, w.heap.size, HF.out⟩

set_option maxHeartbeats 2000000 in
set_option maxRecDepth 100000 in
/-- A version's begin is read. -/
theorem beg_walk {i : Nat} (h : Has o w0 w (.swc b ob B A cur mark fv gone nv l n ((i : Int) + 1) vs bs es)) (v : Int) (hl : A.at_ (.begin_ i) = some v) (h1 : vs.length ≤ 1000000) (h2 : bs.length ≤ 1000000) :
    Calls Tryd.prog 72 #[Pt B, Pt (B + 5), Pt (B + 9), Pt (B + 2), Pt (B + 3), Pt (B + 7)] w fun e w' => e = .returned (.bool false) ∧ Has o w0 w' (.swc b ob B A.step cur mark (fEnd B) gone nv l n ((i : Int) + 1) (vs ++ [(i : Int) + 1]) (bs ++ [v]) es) := by
  obtain ⟨_, he⟩ := swc_env h
  obtain ⟨q0, _, q5, _⟩ := env_cells he
  obtain ⟨c0, _⟩ := swc_fields h
  have HX := Lib.hid h
  have HL := Lib.hid (fun (w' : World) (hw : Has o w0 w' (.swc b ob B A cur mark fv gone nv l n ((i : Int) + 1) vs bs es)) => show Calls Tryd.prog 46 #[Pt b, .int .i64 ((i : Int) + 1)] w' fun e w4 => e = .returned (.tuple #[.int .u64 v, .int .i64 0]) ∧ Has o w0 w4 (.swc b ob B A.step cur mark fv gone nv l n ((i : Int) + 1) vs bs es) from by
    obtain ⟨o1, h1, _, b1⟩ := swc_store hw
    refine (begin_at h1 i v hl).mono ?_
    rintro e w4 ⟨rfl, h'⟩
    exact ⟨rfl, b1 _ _ h'⟩)
  clear h he hl
  go_enter Tryd.func72, Tryd.ntmps72
  go_wp2_with fail
  go_region_held3 (fun w' => w'.cell? ⟨B, 0, none⟩ = some (Pt ob) ∧ w'.cell? ⟨ob, 0, none⟩ = some (Pt b) ∧ w'.cell? ⟨B + 5, 0, none⟩ = some (.int .i64 ((i : Int) + 1)))
    (first | exact ⟨q0, c0, q5⟩ | exact ⟨r0, d0, r5⟩)
    (first | (go_at_call 46
              refine (HL.out _ (HX.out.quiet ((Kept.refl _ _).drew))).mono ?_
              rintro e w4 ⟨rfl, hX4⟩
              obtain ⟨_, he4⟩ := swc_env hX4
              obtain ⟨r0, _, r5, _⟩ := env_cells he4
              obtain ⟨d0, _⟩ := swc_fields hX4
              have HX4 := Lib.hid hX4
              clear hX4 he4))
  have HP := Lib.hid (swc_putI HX4.out ((i : Int) + 1) h1)
  clear q0 q5 c0 d0
  go_wp2_with fail
  refine HP.out.mono ?_
  rintro e w5 ⟨rfl, hX5⟩
  have HP5 := Lib.hid (swc_putB hX5 v h2)
  clear hX5 r0 r5
  go_wp2_with fail
  refine HP5.out.mono ?_
  rintro e w6 ⟨rfl, hX6⟩
  obtain ⟨_, he⟩ := swc_env hX6
  obtain ⟨q0, _, _, _, _, q7, _⟩ := env_cells he
  obtain ⟨_, _, _, c3, _, _, zf⟩ := swc_fields hX6
  have z3 := zf 3 (by omega)
  have HF := Lib.hid (swc_next hX6 (fEnd B))
  unfold fEnd at q7 HF
  clear hX6 he zf
  go_wp2_with fail
  go_ret
  exact ⟨rfl, HF.out⟩

set_option maxHeartbeats 2000000 in
set_option maxRecDepth 100000 in
/-- A version's end is read. -/
theorem end_walk {i : Nat} (h : Has o w0 w (.swc b ob B A cur mark fv gone nv l n ((i : Int) + 1) vs bs es)) (v : Int) (hl : A.at_ (.end_ i) = some v) (h2 : es.length ≤ 1000000) :
    Calls Tryd.prog 75 #[Pt B, Pt (B + 5), Pt (B + 9), Pt (B + 4), Pt (B + 8)] w fun e w' => e = .returned (.bool false) ∧ Has o w0 w' (.swc b ob B A.step cur mark (fBeh B) gone nv l n ((i : Int) + 1) vs bs (es ++ [v])) := by
  obtain ⟨_, he⟩ := swc_env h
  obtain ⟨q0, _, q5, _⟩ := env_cells he
  obtain ⟨c0, _⟩ := swc_fields h
  have HX := Lib.hid h
  have HL := Lib.hid (fun (w' : World) (hw : Has o w0 w' (.swc b ob B A cur mark fv gone nv l n ((i : Int) + 1) vs bs es)) => show Calls Tryd.prog 47 #[Pt b, .int .i64 ((i : Int) + 1)] w' fun e w4 => e = .returned (.tuple #[.int .u64 v, .int .i64 0]) ∧ Has o w0 w4 (.swc b ob B A.step cur mark fv gone nv l n ((i : Int) + 1) vs bs es) from by
    obtain ⟨o1, h1, _, b1⟩ := swc_store hw
    refine (end_at h1 i v hl).mono ?_
    rintro e w4 ⟨rfl, h'⟩
    exact ⟨rfl, b1 _ _ h'⟩)
  clear h he hl
  go_enter Tryd.func75, Tryd.ntmps75
  go_wp2_with fail
  go_region_held3 (fun w' => w'.cell? ⟨B, 0, none⟩ = some (Pt ob) ∧ w'.cell? ⟨ob, 0, none⟩ = some (Pt b) ∧ w'.cell? ⟨B + 5, 0, none⟩ = some (.int .i64 ((i : Int) + 1)))
    (first | exact ⟨q0, c0, q5⟩ | exact ⟨r0, d0, r5⟩)
    (first | (go_at_call 47
              refine (HL.out _ (HX.out.quiet ((Kept.refl _ _).drew))).mono ?_
              rintro e w4 ⟨rfl, hX4⟩
              obtain ⟨_, he4⟩ := swc_env hX4
              obtain ⟨r0, _, r5, _⟩ := env_cells he4
              obtain ⟨d0, _⟩ := swc_fields hX4
              have HX4 := Lib.hid hX4
              clear hX4 he4))
  have HP5 := Lib.hid (swc_putE HX4.out v h2)
  clear q0 q5 c0 d0 r0 r5
  go_wp2_with fail
  refine HP5.out.mono ?_
  rintro e w6 ⟨rfl, hX6⟩
  obtain ⟨_, he⟩ := swc_env hX6
  obtain ⟨q0, _, _, _, _, _, q8⟩ := env_cells he
  obtain ⟨_, _, _, c3, _, _, zf⟩ := swc_fields hX6
  have z3 := zf 3 (by omega)
  have HF := Lib.hid (swc_next hX6 (fBeh B))
  unfold fBeh at q8 HF
  clear hX6 he zf
  go_wp2_with fail
  go_ret
  exact ⟨rfl, HF.out⟩

set_option maxHeartbeats 2000000 in
set_option maxRecDepth 100000 in
/-- What stands behind a version is read. -/
theorem beh_walk {i : Nat} (h : Has o w0 w (.swc b ob B A cur mark fv gone nv l n ((i : Int) + 1) vs bs es)) (v : Int) (hl : A.at_ (.next i) = some v) (hi9 : v < 9223372036854775808) :
    Calls Tryd.prog 76 #[Pt B, Pt (B + 5), Pt (B + 9), Pt (B + 6), Pt (B + 1), Pt (B + 2), Pt (B + 3), Pt (B + 4)] w fun e w' => e = .returned (.bool false) ∧
      Has o w0 w' (.swc b ob B A.step cur mark (if v = 0 then fTake B else fBeg B) gone nv l n v vs bs es) := by
  obtain ⟨_, he⟩ := swc_env h
  obtain ⟨q0, _, q5, _⟩ := env_cells he
  obtain ⟨c0, _⟩ := swc_fields h
  have HX := Lib.hid h
  have HL := Lib.hid (fun (w' : World) (hw : Has o w0 w' (.swc b ob B A cur mark fv gone nv l n ((i : Int) + 1) vs bs es)) => show Calls Tryd.prog 77 #[Pt b, .int .i64 ((i : Int) + 1)] w' fun e w4 => e = .returned (.tuple #[.int .i64 v, .int .i64 0]) ∧ Has o w0 w4 (.swc b ob B A.step cur mark fv gone nv l n ((i : Int) + 1) vs bs es) from by
    obtain ⟨o1, h1, _, b1⟩ := swc_store hw
    refine (next_at h1 i v hl hi9).mono ?_
    rintro e w4 ⟨rfl, h'⟩
    exact ⟨rfl, b1 _ _ h'⟩)
  clear h he hl
  go_enter Tryd.func76, Tryd.ntmps76
  go_wp2_with fail
  go_region_held3 (fun w' => w'.cell? ⟨B, 0, none⟩ = some (Pt ob) ∧ w'.cell? ⟨ob, 0, none⟩ = some (Pt b) ∧ w'.cell? ⟨B + 5, 0, none⟩ = some (.int .i64 ((i : Int) + 1)))
    (first | exact ⟨q0, c0, q5⟩ | exact ⟨r0, d0, r5⟩)
    (first | (go_at_call 77
              refine (HL.out _ (HX.out.quiet ((Kept.refl _ _).drew))).mono ?_
              rintro e w4 ⟨rfl, hX4⟩
              obtain ⟨_, he4⟩ := swc_env hX4
              obtain ⟨r0, _, r5, y5, r6, _⟩ := env_cells he4
              obtain ⟨d0, _, _, d3, _, _, zf⟩ := swc_fields hX4
              have z3 := zf 3 (by omega)
              have HX4 := Lib.hid hX4
              clear hX4 he4 zf))
  clear q0 q5 c0
  have hX5 := swc_at HX4.out v
  have hX6 := swc_next hX5 (fBeg B)
  have hX7 := swc_next hX6 (fTake B)
  have HF6 := Lib.hid hX6
  have HF7 := Lib.hid hX7
  obtain ⟨_, he5⟩ := swc_env hX5
  obtain ⟨s0, _, _, _, s6, _⟩ := env_cells he5
  obtain ⟨_, _, _, d35, _, _, zf5⟩ := swc_fields hX5
  have z35 := zf5 3 (by omega)
  obtain ⟨_, he6⟩ := swc_env hX6
  obtain ⟨t0, _⟩ := env_cells he6
  obtain ⟨_, _, _, d36, _, _, zf6⟩ := swc_fields hX6
  have z36 := zf6 3 (by omega)
  unfold fBeg at s6 HF6 HF7 d36 r6
  unfold fTake at HF7
  clear hX5 hX6 hX7 he5 he6 zf5 zf6
  by_cases hv : v = 0
  · have d1 : decide (v = 0) = true := by simpa using hv
    have d2 : (v == 0) = true := by simpa using hv
    go_wp2_with fail
    go_ret
    exact ⟨rfl, by first | (rw [if_pos hv]; exact HF7.out) | (subst hv; exact HF7.out)⟩
  · have d1 : decide (v = 0) = false := by simpa using hv
    have d2 : (v == 0) = false := by simpa using hv
    go_wp2_with fail
    go_ret
    exact ⟨rfl, by first | (rw [if_neg hv]; exact HF6.out) | exact HF6.out⟩
end Go.Proofs.YtbodobdllchmgaaDoor
namespace Go.Proofs.YtbodobdllchmgaaDoor
open Go Go.RowKit
set_option linter.unusedVariables false

variable {o : List Nat} {w0 w : World} {b : Nat} {A : ASt}

set_option maxHeartbeats 2000000 in
set_option maxRecDepth 100000 in
theorem setEnd_no (h : Has o w0 w (.store b A)) (n : Int) (hn : ∀ i : Nat, n = (i : Int) + 1 → A.ver i = false) (q : Int) :
    Calls Tryd.prog 38 #[.pointer (some ⟨b, 0, none⟩), .int .i64 n, .int .u64 q] w fun e w' => e = .returned (.int .i64 110) ∧ w' = w := by
  obtain ⟨x, hr, h⟩ := h.stOpen
  have HV := Lib.hid (version_no h n hn)
  have HN := Lib.hid (none_walk w b)
  clear h hr hn
  go_enter Tryd.func38, Tryd.ntmps38
  go_wp2_with fail
  refine HV.out.mono ?_
  rintro e w' ⟨rfl, rfl⟩
  go_wp2_with fail
  refine HN.out.mono ?_
  rintro e w' ⟨rfl, rfl⟩
  go_wp2_with fail
  go_ret
  exact ⟨rfl, rfl⟩

set_option maxHeartbeats 2000000 in
set_option maxRecDepth 100000 in
theorem setEnd_bad (h : Has o w0 w (.store b A)) (i : Nat) (u q : Int) (hl : A.at_ (.end_ i) = some u) (hq0 : 0 ≤ q) (hq1 : q < 18446744073709551616) (hq : wOk q = false) :
    Calls Tryd.prog 38 #[.pointer (some ⟨b, 0, none⟩), .int .i64 ((i : Int) + 1), .int .u64 q] w fun e w' => e = .returned (.int .i64 50) ∧ w' = w := by
  obtain ⟨x, hr, h⟩ := h.stOpen
  have hlt := ver_lt (at_end hl)
  obtain ⟨g, cap, hvv⟩ := StP.verSlice h hlt
  obtain ⟨c0, _, _, _⟩ := StP.fields h
  obtain ⟨_, _, c1, _⟩ := StP.verCells h hlt hvv
  have HV := Lib.hid (version_at h i (at_end hl) hvv)
  have HX := Lib.hid h
  have HR := Lib.hid hr
  have HVV := Lib.hid hvv
  have HC := Lib.hid (fun W => parts_walk W q hq0 hq1)
  rw [hq] at HC
  clear h hr hl hvv hq
  go_enter Tryd.func38, Tryd.ntmps38
  go_wp2_with fail
  refine HV.out.mono ?_
  rintro e w' ⟨rfl, rfl⟩
  go_wp2_with fail
  refine (HC.out _).mono ?_
  rintro e w' ⟨rfl, rfl⟩
  go_wp2_with fail
  go_ret
  exact ⟨rfl, rfl⟩

set_option maxHeartbeats 2000000 in
set_option maxRecDepth 100000 in
theorem setEnd_at (h : Has o w0 w (.store b A)) (i : Nat) (u q : Int) (hl : A.at_ (.end_ i) = some u) (hq0 : 0 ≤ q) (hq1 : q < 18446744073709551616) (hq : wOk q = true) :
    Calls Tryd.prog 38 #[.pointer (some ⟨b, 0, none⟩), .int .i64 ((i : Int) + 1), .int .u64 q] w fun e w' => e = .returned (.int .i64 0) ∧ Has o w0 w' (.store b (A.step.set (.end_ i) q)) := by
  obtain ⟨x, hr, h⟩ := h.stOpen
  have hlt := ver_lt (at_end hl)
  obtain ⟨g, cap, hvv⟩ := StP.verSlice h hlt
  obtain ⟨c0, _, _, _⟩ := StP.fields h
  obtain ⟨_, _, c1, _⟩ := StP.verCells h hlt hvv
  have HV := Lib.hid (version_at h i (at_end hl) hvv)
  have HX := Lib.hid h
  have HR := Lib.hid hr
  have HVV := Lib.hid hvv
  have HC := Lib.hid (fun W => parts_walk W q hq0 hq1)
  rw [hq] at HC
  have HL := Lib.hid (fun (w' : World) (hw : Has o w0 w' (StP b x A)) => stp_store hw hr (.end_ i) u q hl)
  have HL0 := Lib.hid hl
  clear h hr hl hvv hq
  go_enter Tryd.func38, Tryd.ntmps38
  go_wp2_with fail
  refine HV.out.mono ?_
  rintro e w' ⟨rfl, rfl⟩
  go_wp2_with fail
  refine (HC.out _).mono ?_
  rintro e w' ⟨rfl, rfl⟩
  go_wp2_with fail
  go_region_held3 (fun w' => w'.cell? ⟨b, 0, none⟩ = some (.pointer (some ⟨x.ab, 0, none⟩)) ∧ w'.cell? ⟨g, i * 5 + 2, none⟩ = some (.int .i64 ((x.C.v i).2.1)))
    (first | exact ⟨c0, c1⟩ | exact ⟨d0, d1⟩)
    (first | (go_at_call 61
              refine (HL.out _ (HX.out.quiet ((Kept.refl _ _).drew))).mono ?_
              rintro e w4 ⟨rfl, hX4⟩
              obtain ⟨d0, _, _, _⟩ := StP.fields hX4
              obtain ⟨_, _, d1, _⟩ := StP.verCells hX4 hlt HVV.out
              have HX4 := Lib.hid hX4
              clear hX4))
  go_wp2_with fail
  go_ret
  exact ⟨rfl, HX4.out.stShut (HR.out.step.put (l := .end_ i) (u := u) HL0.out ⟨hq0, hq1⟩ (fun _ e => by cases e) (fun _ e => by cases e))⟩

end Go.Proofs.YtbodobdllchmgaaDoor
namespace Go.Proofs.YtbodobdllchmgaaDoor
open Go Go.RowKit
set_option linter.unusedVariables false

variable {o : List Nat} {w0 w : World} {b : Nat} {A : ASt}

set_option maxHeartbeats 4000000 in
set_option maxRecDepth 100000 in
theorem push_first (h : Has o w0 w (.store b A)) (i j : Nat) (hl : A.at_ (.head i) = some ((0))) (hj : A.ver j = true) (hV : A.nV ≤ 1000000000) :
    Calls Tryd.prog 27 #[.pointer (some ⟨b, 0, none⟩), .int .i64 ((i : Int) + 1), .int .i64 (0), .int .i64 ((j : Int) + 1)] w fun e w' => e = .returned (.tuple #[.bool true, .int .i64 0]) ∧ Has o w0 w' (.store b (A.step.set (.head i) ((j : Int) + 1))) := by
  obtain ⟨x, hr, h⟩ := h.stOpen
  have hlt := at_head hl
  have hjl := ver_lt hj
  obtain ⟨g, cap, hvv⟩ := StP.nodeSlice h hlt
  obtain ⟨c0, _, _, _⟩ := StP.fields h
  obtain ⟨c1, _⟩ := StP.nodeCells h hlt hvv
  obtain ⟨gj, capj, hvj⟩ := StP.verSlice h hjl
  have HN := Lib.hid (node_at h i hlt hvv)
  have HJ := Lib.hid (version_at h j hj hvj)
  have HL := Lib.hid (fun (w' : World) (hw : Has o w0 w' (StP b x A)) => stp_cas hw hr (.head i) (0) ((j : Int) + 1) hl)
  have HL0 := Lib.hid hl
  have HX := Lib.hid h
  have HR := Lib.hid hr
  have HVV := Lib.hid hvv
  have e2 : IntKind.u64.wrap ((j : Int) + 1) = (j : Int) + 1 := by unfold IntKind.wrap; simp [IntKind.bits, IntKind.signed]; omega
  clear h hr hl hvv hvj hj
  go_enter Tryd.func27, Tryd.ntmps27
  go_wp2_with fail
  refine HN.out.mono ?_
  rintro e w' ⟨rfl, rfl⟩
  go_wp2_with fail
  refine HJ.out.mono ?_
  rintro e w' ⟨rfl, rfl⟩
  go_wp2_with fail
  go_region_held3 (fun w' => w'.cell? ⟨b, 0, none⟩ = some (.pointer (some ⟨x.ab, 0, none⟩)) ∧ w'.cell? ⟨g, i * 2, none⟩ = some (.int .i64 ((x.C.n i).1)))
    (first | exact ⟨c0, c1⟩ | exact ⟨d0, d1⟩)
    (first | (go_at_call 55
              refine (HL.out _ (HX.out.quiet ((Kept.refl _ _).drew))).mono ?_
              rintro e w4 ⟨rfl, hX4⟩
              obtain ⟨d0, _, _, _⟩ := StP.fields hX4
              obtain ⟨d1, _⟩ := StP.nodeCells hX4 hlt HVV.out
              have HX4 := Lib.hid hX4
              clear hX4))
  go_wp2_with fail
  go_ret2
  exact ⟨rfl, HX4.out.stShut (HR.out.step.put (l := .head i) (u := 0) HL0.out ⟨by omega, by omega⟩ (fun _ _ => by show _ ≤ (A.nV : Int); omega) (fun _ e => by cases e))⟩

set_option maxHeartbeats 4000000 in
set_option maxRecDepth 100000 in
theorem push_over (h : Has o w0 w (.store b A)) (i j : Nat) (k : Nat) (hk : A.ver k = true) (hl : A.at_ (.head i) = some (((k : Int) + 1))) (hj : A.ver j = true) (hV : A.nV ≤ 1000000000) :
    Calls Tryd.prog 27 #[.pointer (some ⟨b, 0, none⟩), .int .i64 ((i : Int) + 1), .int .i64 ((k : Int) + 1), .int .i64 ((j : Int) + 1)] w fun e w' => e = .returned (.tuple #[.bool true, .int .i64 0]) ∧ Has o w0 w' (.store b (A.step.set (.head i) ((j : Int) + 1))) := by
  obtain ⟨x, hr, h⟩ := h.stOpen
  have hlt := at_head hl
  have hjl := ver_lt hj
  obtain ⟨g, cap, hvv⟩ := StP.nodeSlice h hlt
  obtain ⟨c0, _, _, _⟩ := StP.fields h
  obtain ⟨c1, _⟩ := StP.nodeCells h hlt hvv
  obtain ⟨gj, capj, hvj⟩ := StP.verSlice h hjl
  have HN := Lib.hid (node_at h i hlt hvv)
  have HJ := Lib.hid (version_at h j hj hvj)
  obtain ⟨gk, capk, hvk⟩ := StP.verSlice h (ver_lt hk)
  have HKV := Lib.hid (version_at h k hk hvk)
  have hkl := ver_lt hk
  have e1 : IntKind.u64.wrap ((k : Int) + 1) = (k : Int) + 1 := by unfold IntKind.wrap; simp [IntKind.bits, IntKind.signed]; omega
  have f1 : decide ((k : Int) + 1 = 0) = false := by simp; omega
  have f2 : ((k : Int) + 1 == 0) = false := by simp; omega
  clear hvk
  have HL := Lib.hid (fun (w' : World) (hw : Has o w0 w' (StP b x A)) => stp_cas hw hr (.head i) ((k : Int) + 1) ((j : Int) + 1) hl)
  have HL0 := Lib.hid hl
  have HX := Lib.hid h
  have HR := Lib.hid hr
  have HVV := Lib.hid hvv
  have e2 : IntKind.u64.wrap ((j : Int) + 1) = (j : Int) + 1 := by unfold IntKind.wrap; simp [IntKind.bits, IntKind.signed]; omega
  clear h hr hl hvv hvj hj
  go_enter Tryd.func27, Tryd.ntmps27
  go_wp2_with fail
  refine HN.out.mono ?_
  rintro e w' ⟨rfl, rfl⟩
  go_wp2_with fail
  refine HKV.out.mono ?_
  rintro e w' ⟨rfl, rfl⟩
  go_wp2_with fail
  refine HJ.out.mono ?_
  rintro e w' ⟨rfl, rfl⟩
  go_wp2_with fail
  go_region_held3 (fun w' => w'.cell? ⟨b, 0, none⟩ = some (.pointer (some ⟨x.ab, 0, none⟩)) ∧ w'.cell? ⟨g, i * 2, none⟩ = some (.int .i64 ((x.C.n i).1)))
    (first | exact ⟨c0, c1⟩ | exact ⟨d0, d1⟩)
    (first | (go_at_call 55
              refine (HL.out _ (HX.out.quiet ((Kept.refl _ _).drew))).mono ?_
              rintro e w4 ⟨rfl, hX4⟩
              obtain ⟨d0, _, _, _⟩ := StP.fields hX4
              obtain ⟨d1, _⟩ := StP.nodeCells hX4 hlt HVV.out
              have HX4 := Lib.hid hX4
              clear hX4))
  go_wp2_with fail
  go_ret2
  exact ⟨rfl, HX4.out.stShut (HR.out.step.put (l := .head i) (u := (k : Int) + 1) HL0.out ⟨by omega, by omega⟩ (fun _ _ => by show _ ≤ (A.nV : Int); omega) (fun _ e => by cases e))⟩

end Go.Proofs.YtbodobdllchmgaaDoor
namespace Go.Proofs.YtbodobdllchmgaaDoor
open Go Go.RowKit
set_option linter.unusedVariables false

variable {o : List Nat} {w0 w : World} {b : Nat} {x : StIx} {A : ASt}

theorem chainF_at (A : ASt) (st : Int) (f : Nat) (n : Int) : chainF (A.at st) f n = chainF A f n := by
  induction f generalizing n with
  | zero => rfl
  | succ f ih =>
    show (if 1 ≤ n ∧ A.ver (n - 1).toNat = true then n.toNat :: chainF (A.at st) f (A.V (n - 1).toNat).next else []) = if 1 ≤ n ∧ A.ver (n - 1).toNat = true then n.toNat :: chainF A f (A.V (n - 1).toNat).next else []
    rw [ih]

set_option maxHeartbeats 4000000 in
set_option maxRecDepth 100000 in
theorem Chain_at (h : Has o w0 w (.store b A)) (i : Nat) (v : Int) (hl : A.at_ (.head i) = some v) (hV : A.nV ≤ 1000000000) :
    Calls Tryd.prog 45 #[.pointer (some ⟨b, 0, none⟩), .int .i64 ((i : Int) + 1)] w fun e w' => ∃ lv st, e = .returned lv ∧ Has o w0 w' ((Part.store b (A.at st)).sep (.nums lv (chainF A v.toNat v))) := by
  obtain ⟨x, hr, h⟩ := h.stOpen
  have hlt := at_head hl
  obtain ⟨g, cap, hvv⟩ := StP.nodeSlice h hlt
  obtain ⟨c0, _, _, _⟩ := StP.fields h
  obtain ⟨c1, _⟩ := StP.nodeCells h hlt hvv
  have hw9 := hr.word _ v hl
  have hle := hr.headLe i v hl
  have HV := Lib.hid (node_at h i hlt hvv)
  have HL := Lib.hid (fun (w' : World) (hw : Has o w0 w' (StP b x A)) => stp_load hw hr (.head i) v hl)
  have HX := Lib.hid h
  have HR := Lib.hid hr
  have HVV := Lib.hid hvv
  have e9 : IntKind.i64.wrap v = v := by unfold IntKind.wrap; simp [IntKind.bits, IntKind.signed]; omega
  clear h hr hl hvv
  go_enter Tryd.func45, Tryd.ntmps45
  go_wp2_with fail
  refine HV.out.mono ?_
  rintro e w' ⟨rfl, rfl⟩
  go_wp2_with fail
  go_region_held3 (fun w' => w'.cell? ⟨b, 0, none⟩ = some (.pointer (some ⟨x.ab, 0, none⟩)) ∧ w'.cell? ⟨g, i * 2, none⟩ = some (.int .i64 ((x.C.n i).1)))
    (first | exact ⟨c0, c1⟩ | exact ⟨d0, d1⟩)
    (first | (go_at_call 51
              refine (HL.out _ (HX.out.quiet ((Kept.refl _ _).drew))).mono ?_
              rintro e w4 ⟨rfl, hX4⟩
              obtain ⟨d0, _, _, _⟩ := StP.fields hX4
              obtain ⟨d1, _⟩ := StP.nodeCells hX4 hlt HVV.out
              have HX4 := Lib.hid hX4
              clear hX4))
  have HCH := Lib.hid (chain_walk HX4.out HR.out.step v hle hV)
  go_wp2_with fail
  refine HCH.out.mono ?_
  rintro e w7 ⟨lv, S, st, rfl, hr7, hX7⟩
  have HX7 := Lib.hid hX7
  have HR7 := Lib.hid hr7
  clear hX7 hr7
  go_wp2_with fail
  go_ret
  refine ⟨_, st, rfl, ?_⟩
  have h8 := HX7.out
  rw [show A.step = A.at (wrap64 (A.steps + 1)) from rfl, chainF_at] at h8
  obtain ⟨o9, h9, _, _, b9⟩ := h8.left
  exact b9 _ _ (Has.stShut (x := { x with S := S }) HR7.out h9)

/-- A version that is no more. -/
def ASt.goneV (A : ASt) (i : Nat) : ASt := { A with V := fun j => if j = i then { A.V j with gone := true } else A.V j }

theorem goneV_ver (A : ASt) (i j : Nat) : (A.goneV i).ver j = (A.ver j && decide (j ≠ i)) := by
  unfold ASt.ver ASt.goneV
  by_cases e : j = i <;> simp [e]

theorem goneV_at {A : ASt} {i : Nat} {l : Loc} {v : Int} (h : (A.goneV i).at_ l = some v) : A.at_ l = some v ∧ l ≠ .begin_ i ∧ l ≠ .end_ i ∧ l ≠ .next i := by
  cases l with
  | head j => exact ⟨h, by simp, by simp, by simp⟩
  | lock j => exact ⟨h, by simp, by simp, by simp⟩
  | state j => exact ⟨h, by simp, by simp, by simp⟩
  | begin_ j =>
    simp only [ASt.at_, goneV_ver] at h ⊢
    by_cases e : j = i
    · subst e; simp at h
    · simp only [ASt.goneV, if_neg e] at h
      simp [e] at h
      exact ⟨by simpa using h, by simpa using e, by simp, by simp⟩
  | end_ j =>
    simp only [ASt.at_, goneV_ver] at h ⊢
    by_cases e : j = i
    · subst e; simp at h
    · simp only [ASt.goneV, if_neg e] at h
      simp [e] at h
      exact ⟨by simpa using h, by simp, by simpa using e, by simp⟩
  | next j =>
    simp only [ASt.at_, goneV_ver] at h ⊢
    by_cases e : j = i
    · subst e; simp at h
    · simp only [ASt.goneV, if_neg e] at h
      simp [e] at h
      exact ⟨by simpa using h, by simp, by simp, by simpa using e⟩

theorem cnt_drop {get : Nat → Option Int} {c : Nat} (n : Nat) (hc : c < n) (h : (get c).isSome = true) : cnt (fun d => if d = c then none else get d) n + 1 = cnt get n := by
  have same : ∀ m, m ≤ c → cnt (fun d => if d = c then none else get d) m = cnt get m := by
    intro m
    induction m with
    | zero => intro _; rfl
    | succ m ih => intro hm; unfold cnt; rw [ih (by omega)]; simp only [if_neg (show ¬ m = c by omega)]
  induction n with
  | zero => omega
  | succ n ih =>
    unfold cnt
    by_cases e : c = n
    · subst e
      rw [same c (Nat.le_refl _), if_pos rfl, h]; simp
    · have := ih (by omega)
      simp only [if_neg (show ¬ n = c from fun h => e h.symm)]
      omega

theorem cnt_dropAll (S : Ar) (cs : List Nat) (n : Nat) (hd : cs.Nodup) (hs : ∀ c ∈ cs, (S.get c).isSome = true ∧ c < n) : cnt (dropAll S cs).get n + cs.length = cnt S.get n := by
  induction cs generalizing S with
  | nil => rfl
  | cons c cs ih =>
    have hc := hs c (by simp)
    have hnd := List.nodup_cons.1 hd
    have h1 := ih (S.drop c) hnd.2 (fun d hm => by
      have := hs d (by simp [hm])
      refine ⟨?_, this.2⟩
      show (if d = c then none else S.get d).isSome = true
      rw [if_neg (fun e : d = c => hnd.1 (by rw [← e]; exact hm))]; exact this.1)
    have h2 : cnt (S.drop c).get n + 1 = cnt S.get n := cnt_drop n hc.2 hc.1
    show cnt (dropAll (S.drop c) cs).get n + (cs.length + 1) = _
    omega

theorem cntB_gone {A : ASt} {i : Nat} (n : Nat) (hi : i < n) (hg : (A.V i).gone = false) : cntB (fun j => !((A.goneV i).V j).gone) n + 1 = cntB (fun j => !(A.V j).gone) n := by
  have same : ∀ m, m ≤ i → cntB (fun j => !((A.goneV i).V j).gone) m = cntB (fun j => !(A.V j).gone) m := by
    intro m
    induction m with
    | zero => intro _; rfl
    | succ m ih => intro hm; unfold cntB; rw [ih (by omega)]; simp only [ASt.goneV, if_neg (show ¬ m = i by omega)]
  induction n with
  | zero => omega
  | succ n ih =>
    unfold cntB
    by_cases e : i = n
    · subst e
      rw [same i (Nat.le_refl _), hg]; simp [ASt.goneV]
    · have := ih (by omega)
      simp only [ASt.goneV, if_neg (show ¬ n = i from fun h => e h.symm)] at this ⊢
      omega

/-- A cell that is taken lies in the arena. -/
theorem StRep.goneV {S : Ar} {C : Cells} {A : ASt} {i : Nat} (h : StRep S C A) (hv : A.ver i = true) (hlt : ∀ c, (S.get c).isSome = true → c < S.size) :
    [(C.v i).1, (C.v i).2.1, (C.v i).2.2].Nodup ∧ (∀ c ∈ [(C.v i).1, (C.v i).2.1, (C.v i).2.2], (S.get c).isSome = true) ∧ StRep (dropAll S [(C.v i).1, (C.v i).2.1, (C.v i).2.2]) C (A.goneV i) := by
  have hi := ver_lt hv
  have hgone : (A.V i).gone = false := by unfold ASt.ver at hv; simp at hv; exact hv.2
  have a1 : A.at_ (.begin_ i) = some (A.V i).begin_ := by show (if A.ver i = true then _ else none) = _; rw [if_pos hv]
  have a2 : A.at_ (.end_ i) = some (A.V i).end_ := by show (if A.ver i = true then _ else none) = _; rw [if_pos hv]
  have a3 : A.at_ (.next i) = some (A.V i).next := by show (if A.ver i = true then _ else none) = _; rw [if_pos hv]
  have g1 := h.has _ _ a1
  have g2 := h.has _ _ a2
  have g3 := h.has _ _ a3
  have n12 : (C.v i).1 ≠ (C.v i).2.1 := fun e => by have := h.inj (.begin_ i) (.end_ i) (by rw [a1]; rfl) (by rw [a2]; rfl) e; cases this
  have n13 : (C.v i).1 ≠ (C.v i).2.2 := fun e => by have := h.inj (.begin_ i) (.next i) (by rw [a1]; rfl) (by rw [a3]; rfl) e; cases this
  have n23 : (C.v i).2.1 ≠ (C.v i).2.2 := fun e => by have := h.inj (.end_ i) (.next i) (by rw [a2]; rfl) (by rw [a3]; rfl) e; cases this
  have hnd : [(C.v i).1, (C.v i).2.1, (C.v i).2.2].Nodup := by simp [n12, n13, n23]
  have hsm : ∀ c ∈ [(C.v i).1, (C.v i).2.1, (C.v i).2.2], (S.get c).isSome = true := by
    intro c hc
    simp only [List.mem_cons, List.not_mem_nil, or_false] at hc
    rcases hc with rfl | rfl | rfl
    · rw [show S.get (C.v i).1 = _ from g1]; rfl
    · rw [show S.get (C.v i).2.1 = _ from g2]; rfl
    · rw [show S.get (C.v i).2.2 = _ from g3]; rfl
  have hout : ∀ l v, (A.goneV i).at_ l = some v → C.of l ∉ [(C.v i).1, (C.v i).2.1, (C.v i).2.2] := by
    intro l v hl hm
    obtain ⟨k0, k1, k2, k3⟩ := goneV_at hl
    simp only [List.mem_cons, List.not_mem_nil, or_false] at hm
    rcases hm with e | e | e
    · exact k1 (h.inj l (.begin_ i) (by rw [k0]; rfl) (by rw [a1]; rfl) e)
    · exact k2 (h.inj l (.end_ i) (by rw [k0]; rfl) (by rw [a2]; rfl) e)
    · exact k3 (h.inj l (.next i) (by rw [k0]; rfl) (by rw [a3]; rfl) e)
  have down : ∀ l, ((A.goneV i).at_ l).isSome = true → (A.at_ l).isSome = true := fun l hl => by
    obtain ⟨v, hv⟩ := Option.isSome_iff_exists.1 hl
    rw [(goneV_at hv).1]; rfl
  refine ⟨hnd, hsm, ⟨by rw [dropAll_size]; exact h.size, h.big, by rw [dropAll_steps]; exact h.steps, fun l v hl => ?_, fun l l' ha hb e => h.inj l l' (down l ha) (down l' hb) e, ?_, fun l v hl => h.word l v (goneV_at hl).1, fun j v hl => h.headLe j v (goneV_at hl).1, fun j v hl => h.nextLe j v (goneV_at hl).1⟩⟩
  · rw [dropAll_get, if_neg (hout l v hl)]
    exact h.has l v (goneV_at hl).1
  · rw [dropAll_size]
    have h1 := cnt_dropAll S _ S.size hnd (fun c hc => ⟨hsm c hc, hlt c (hsm c hc)⟩)
    have h2 := cntB_gone (A := A) A.nV hi hgone
    have h3 := h.count
    simp only [List.length_cons, List.length_nil] at h1
    unfold ASt.used at h3 ⊢
    show _ = 2 * A.nN + 3 * cntB (fun j => !((A.goneV i).V j).gone) A.nV + _
    show cnt _ _ = 2 * A.nN + 3 * cntB (fun j => !((A.goneV i).V j).gone) A.nV + cntB (fun j => !(A.T j).2) A.nT
    omega

theorem stp_lt (h : Has o w0 w (StP b x A)) : ∀ c, (x.S.get c).isSome = true → c < x.S.size := by
  obtain ⟨o1, h1, _⟩ := h.left
  obtain ⟨o2, h2, _⟩ := h1.right
  obtain ⟨_, fp, ⟨hv, hs, ws, low, used, _, _, hi⟩, _⟩ := h2.whenOut
  intro c hc
  rw [hi.get c] at hc
  by_cases e : (ws (c / 64)).testBit (c % 64) = true
  · have := hi.supp c e
    have := hi.cap
    omega
  · rw [if_neg e] at hc; cases hc

theorem numsMade (w : World) (c1 c2 c3 : Nat) : Has [] w (w.alloc (.cells #[.int .i64 (c1 : Nat), .int .i64 (c2 : Nat), .int .i64 (c3 : Nat)] 3)) (.nums (.slice (some ⟨w.heap.size, 0, none⟩) 3 3) [c1, c2, c3]) := by
  have h := Has.made (w := w) 3 #[.int .i64 (c1 : Nat), .int .i64 (c2 : Nat), .int .i64 (c3 : Nat)] (by simp only [maxLen]; simp)
  exact h

/-- The row of versions behind one's end. -/
theorem stp_gone (h : Has o w0 w (StP b x A)) {i : Nat} (hi : i < A.nV) {g cap : Nat} (hvv : x.vv = .slice (some ⟨g, 0, none⟩) A.nV cap) :
    (∃ u, w.cell? ⟨g, i * 5 + 4, none⟩ = some u) ∧ w.frozen? ⟨g, i * 5 + 4, none⟩ = false ∧ Has o w0 (w.setCell ⟨g, i * 5 + 4, none⟩ (.bool true)) (StP b x (A.goneV i)) := by
  obtain ⟨o1, h1, _, _, b1⟩ := h.right
  obtain ⟨o2, h2, _, _, b2⟩ := h1.right
  obtain ⟨o3, h3, _, _, b3⟩ := h2.left
  obtain ⟨g', cap', e, hc, hf, hput⟩ := h3.rowsAt (verF_len _ _) hi
  rw [hvv] at e
  obtain ⟨rfl, rfl⟩ : g = g' ∧ cap = cap' := by simpa using e
  refine ⟨⟨_, hc 4 _ rfl⟩, hf _, ?_⟩
  have h4 := hput 4 (.bool true) (by omega)
  have e2 : (fun d => if d = i then (verF x.C A i).set 4 (.bool true) else verF x.C A d) = verF x.C (A.goneV i) := funext fun d => by
    unfold verF ASt.goneV
    by_cases ed : d = i
    · subst ed; simp
    · simp [ed]
  rw [e2] at h4
  exact b1 _ _ (b2 _ _ (b3 _ _ h4))

set_option maxHeartbeats 4000000 in
set_option maxRecDepth 100000 in
theorem away_walk (h : Has o w0 w (StP b x A)) (hr : StRep x.S x.C A) (i : Nat) (hv : A.ver i = true) {g cap : Nat} (hvv : x.vv = .slice (some ⟨g, 0, none⟩) A.nV cap) :
    Calls Tryd.prog 87 #[.pointer (some ⟨b, 0, none⟩), .pointer (some ⟨g, i * 5, none⟩)] w fun e w' => e = .returned (.tuple #[]) ∧ ∃ S, StRep S x.C (A.goneV i) ∧ Has o w0 w' (StP b { x with S := S } (A.goneV i)) := by
  have hi := ver_lt hv
  have hlt := stp_lt h
  obtain ⟨hnd, hsm, hrep⟩ := hr.goneV hv hlt
  obtain ⟨⟨u4, x4⟩, z4, hg⟩ := stp_gone h hi hvv
  obtain ⟨_, c1, c2, c3⟩ := StP.verCells hg (A := A.goneV i) hi hvv
  have HG := Lib.hid hg
  have HND := Lib.hid hnd
  have HSM := Lib.hid hsm
  have HREP := Lib.hid hrep
  clear h hr hv hnd hsm hrep hg hlt
  go_enter Tryd.func87, Tryd.ntmps87
  go_wp2_with fail
  generalize w.setCell ⟨g, i * 5 + 4, none⟩ (.bool true) = wg at *
  have HM := Lib.hid ((HG.out.quiet ((Kept.refl [] wg).drew)).beside (numsMade wg.drew (x.C.v i).1 (x.C.v i).2.1 (x.C.v i).2.2))
  have HGV := Lib.hid (give_walk HM.out HND.out HSM.out)
  go_region_held3 (fun w' => w'.cell? ⟨g, i * 5 + 1, none⟩ = some (.int .i64 ((x.C.v i).1 : Nat)) ∧ w'.cell? ⟨g, i * 5 + 2, none⟩ = some (.int .i64 ((x.C.v i).2.1 : Nat)) ∧ w'.cell? ⟨g, i * 5 + 3, none⟩ = some (.int .i64 ((x.C.v i).2.2 : Nat)))
    (first | exact ⟨c1, c2, c3⟩ | exact ⟨d1, d2, d3⟩ | go_keep)
    (first | (go_at_call 70
              refine HGV.out.mono ?_
              rintro e w4 ⟨rfl, hX4⟩
              have hX5 := hX4.fst
              obtain ⟨_, d1, d2, d3⟩ := StP.verCells hX5 (A := A.goneV i) hi hvv
              have HX4 := Lib.hid hX5
              clear hX4 hX5))
  go_end0
  exact ⟨rfl, _, HREP.out, HX4.out⟩
end Go.Proofs.YtbodobdllchmgaaDoor
namespace Go.Proofs.YtbodobdllchmgaaDoor
open Go Go.RowKit
set_option linter.unusedVariables false

variable {o : List Nat} {w0 w : World} {b : Nat} {x : StIx} {A : ASt}

/-- One more transaction. -/
def ASt.addTxn (A : ASt) (st : Int) : ASt := { A with steps := st, nT := A.nT + 1, T := fun j => if j = A.nT then (0, false) else A.T j }
def Cells.addTxn (C : Cells) (n c1 : Nat) : Cells := { C with t := fun j => if j = n then c1 else C.t j }

theorem StRep.addTxn {S S' : Ar} {C : Cells} {A : ASt} {c1 : Nat} (h : StRep S C A) (ht : Took S [c1]) (hl : Laid S S' [c1] fun _ => 0) : StRep S' (C.addTxn A.nT c1) (A.addTxn S'.steps) := by
  have hver : ∀ i, i ≠ A.nT → (A.addTxn S'.steps).txn i = A.txn i := fun i hi => by
    unfold ASt.txn ASt.addTxn
    simp only [if_neg hi]
    by_cases h1 : i < A.nT
    · have : i < A.nT + 1 := by omega
      simp [h1, this]
    · have : ¬ i < A.nT + 1 := by omega
      simp [h1, this]
  have hver2 : (A.addTxn S'.steps).txn A.nT = true := by unfold ASt.txn ASt.addTxn; simp
  have hat : ∀ l v, (A.addTxn S'.steps).at_ l = some v → (A.at_ l = some v ∧ (C.addTxn A.nT c1).of l = C.of l) ∨ (l = .state A.nT ∧ v = 0) := by
    intro l v hv
    cases l with
    | head i => exact .inl ⟨hv, rfl⟩
    | lock i => exact .inl ⟨hv, rfl⟩
    | begin_ i => exact .inl ⟨hv, rfl⟩
    | end_ i => exact .inl ⟨hv, rfl⟩
    | next i => exact .inl ⟨hv, rfl⟩
    | state i =>
      by_cases e : i = A.nT
      · subst e; right
        simp only [ASt.at_, hver2, if_true] at hv
        simp [ASt.addTxn] at hv
        exact ⟨rfl, hv.symm⟩
      · left
        simp only [ASt.at_, hver i e] at hv ⊢
        simp only [ASt.addTxn, Cells.of, Cells.addTxn, if_neg e] at hv ⊢
        exact ⟨hv, trivial⟩
  refine h.ext ht hl (fun l i => l = .state A.nT ∧ i = 0) (fun l v hv => ?_) ?_ rfl rfl ?_ (fun i _ => by omega) (fun i v hv => ?_) (fun i v hv => ?_)
  · rcases hat l v hv with h1 | ⟨rfl, rfl⟩
    · exact .inl h1
    · exact .inr ⟨0, by simp, by simp [Cells.of, Cells.addTxn], rfl, rfl, rfl⟩
  · rintro l l' i ⟨rfl, rfl⟩ ⟨rfl, h2⟩; rfl
  · have e : cntB (fun i => !((A.addTxn S'.steps).T i).2) (A.nT + 1) = cntB (fun i => !(A.T i).2) A.nT + 1 := by
      have gen : ∀ m, m ≤ A.nT → cntB (fun i => !((A.addTxn S'.steps).T i).2) m = cntB (fun i => !(A.T i).2) m := by
        intro m
        induction m with
        | zero => intro _; rfl
        | succ m ih =>
          intro hm
          unfold cntB
          rw [ih (by omega)]
          simp only [ASt.addTxn, if_neg (show ¬ m = A.nT by omega)]
      rw [cntB, gen A.nT (Nat.le_refl _)]
      simp [ASt.addTxn]
    show 2 * A.nN + 3 * _ + cntB (fun i => !((A.addTxn S'.steps).T i).2) (A.nT + 1) = A.used + 1
    rw [e]
    unfold ASt.used; simp only [ASt.addTxn]; omega
  · rcases hat _ v hv with ⟨h1, _⟩ | ⟨h1, _⟩
    · exact h.headLe i v h1
    · cases h1
  · rcases hat _ v hv with ⟨h1, _⟩ | ⟨h1, _⟩
    · exact h.nextLe i v h1
    · cases h1

theorem stp_moreTxn {w5 : World} {B : Part} {v' : Value} {c1 : Nat} (st : Int) (ob : Obj) (h : Has o w0 w ((StP b x A).sep B))
    (happ : Appended (w.alloc ob) w5 148 2 x.tv v' (A.nT + 1) (flatN A.nT (txnF x.C A) ++ [.int .i64 (c1 : Nat), .bool false])) :
    (∃ o', Has o' w5 w5 B) ∧ w5.cell? ⟨b, 3, none⟩ = some x.tv ∧ w5.frozen? ⟨b, 3, none⟩ = false ∧ Has o w0 (w5.setCell ⟨b, 3, none⟩ v') ((StP b { x with tv := v', C := x.C.addTxn A.nT c1 } (A.addTxn st)).sep B) := by
  obtain ⟨o1, h1, _, _, b1⟩ := h.left
  obtain ⟨o2, h2, _, _, b2⟩ := h1.right
  obtain ⟨o3, h3, _, _, b3⟩ := h2.right
  obtain ⟨o4, h4, _, _, b4⟩ := h3.right
  have h4 := Has.rowsMore ob h4 happ
  have h5 := b2 _ _ (b3 _ _ (b4 _ _ h4))
  obtain ⟨o6, h6, _, _, b6⟩ := h5.left
  obtain ⟨o7, h7, _, _, b7⟩ := h6.left
  obtain ⟨c, z, hput⟩ := h7.blkAt (i := 3) (by omega)
  obtain ⟨oo, hoo, _⟩ := (b1 _ _ h5).right
  refine ⟨⟨oo, hoo⟩, c, z, b1 _ _ ?_⟩
  have h8 := b6 _ _ (b7 _ _ (hput v'))
  have e1 : ∀ i, i < 4 → upd (stF x.ab x.nv x.vv x.tv) 3 v' i = stF x.ab x.nv x.vv v' i := fun i hi => by
    unfold upd stF
    rcases (by omega : i = 0 ∨ i = 1 ∨ i = 2 ∨ i = 3) with rfl | rfl | rfl | rfl <;> simp
  have e2 : (fun d => if d = A.nT then [Value.int .i64 (c1 : Nat), .bool false] else txnF x.C A d) = txnF (x.C.addTxn A.nT c1) (A.addTxn st) := funext fun d => by
    unfold txnF Cells.addTxn ASt.addTxn
    by_cases e : d = A.nT <;> simp [e]
  rw [e2] at h8
  obtain ⟨fp, ⟨f, gg, ⟨f2, g2, ⟨hb, hfb⟩, hA, hd2, rfl⟩, hR, hd, rfl⟩, hn, kk⟩ := h8
  exact ⟨_, ⟨_, _, ⟨f2, g2, ⟨hb.congr e1, hfb⟩, hA, hd2, rfl⟩, hR, hd, rfl⟩, hn, kk⟩

theorem info_txn : (Tryd.prog.info? 148).map (fun i => (i.zero, i.size, i.bytes)) = some (some (.agg #[.int .i64 0, .bool false]), 2, 16) := by kernel_rfl

theorem cells_txn (w : World) (n : Nat) (c1 : Int) (t : TypeId) (hn : n = w.heap.size) : ∀ j u, [Value.int .i64 c1, .bool false][j]? = some u → (w.alloc (.cells #[.int .i64 c1, .bool false] t)).cell? ((⟨n, 0, none⟩ : Addr).add j) = some u := by
  subst hn
  intro j u hu
  have h : j < 2 := by have := (List.getElem?_eq_some_iff.1 hu).1; simpa using this
  have hb := Blk.made w #[.int .i64 c1, .bool false] t (fun i => [Value.int .i64 c1, .bool false].getD i default) 2 rfl (fun i hi => match i, hi with | 0, _ => rfl | 1, _ => rfl)
  rw [addr0, hb.cell h, List.getD_eq_getElem?_getD, hu]
  rfl

end Go.Proofs.YtbodobdllchmgaaDoor
