/- The reference's disk in memory: its struct, its lists of names (two, that may share a row), its log, its files. Nothing is claimed of a program here.
The reference's may, ready, Read, SyncDir, Sync walked.
The reference's change walked.
The reference's Rename, Delete, SyncDir, Sync, Names walked.
The reference's Sync, Poke and Names walked. -/
import Derived.Test.YtbankfdgoolbdaaMPlays7
import Derived.Test.YtbankfdgoolbdaaMPlays6
namespace Go.Proofs.Ytbankfdgoolbdaa
open Go Go.RowKit Go.Lib
set_option linter.unusedVariables false
variable {o : List Nat} {w0 w w' w1 : World}

/-- What holds of a disk, and that its files are few. -/
structure ADk.Okf (a : ADk) : Prop where
  ok : a.Ok
  few : a.fs.length ≤ a.ops + 64

theorem ADk.new_okf : ADk.new.Okf := ⟨ADk.new_ok, by decide⟩
theorem ADk.cutAt_okf {a : ADk} (h : a.Okf) (n : Int) : (a.cutAt n).Okf := ⟨a.cutAt_ok h.ok n, h.few⟩
theorem ADk.rename_okf {a : ADk} (h : a.Okf) (s t : Nm) : (a.rename s t).2.Okf := by
  refine ⟨a.rename_ok h.ok s t, ?_⟩
  have := h.few
  unfold ADk.rename
  simp only
  split
  · exact this
  · show a.fs.length ≤ a.ops + 1 + 64; omega
theorem ADk.delete_okf {a : ADk} (h : a.Okf) (s : Nm) : (a.delete s).2.Okf := by
  refine ⟨a.delete_ok h.ok s, ?_⟩
  have := h.few
  unfold ADk.delete
  simp only
  split
  · exact this
  · show a.fs.length ≤ a.ops + 1 + 64; omega
theorem ADk.syncDir_okf {a : ADk} (h : a.Okf) : a.syncDir.2.Okf := by
  refine ⟨a.syncDir_ok h.ok, ?_⟩
  have := h.few
  unfold ADk.syncDir
  simp only
  split
  · exact this
  · show a.fs.length ≤ a.ops + 1 + 64; omega
theorem ADk.sync_okf {a : ADk} (h : a.Okf) (s : Nm) : (a.sync s).2.Okf := by
  refine ⟨a.sync_ok h.ok s, ?_⟩
  have := h.few
  unfold ADk.sync
  simp only
  split
  · exact this
  · split
    · exact this
    · show (a.fs.set _ _).length ≤ a.ops + 1 + 64
      rw [List.length_set]; omega
theorem ADk.append_okf {a : ADk} (h : a.Okf) (s : Nm) (b : List UInt8) : (a.append s b).2.Okf := by
  refine ⟨a.append_ok h.ok s b, ?_⟩
  have := h.few
  unfold ADk.append
  simp only
  split
  · exact this
  · split
    · split
      · exact this
      · show (a.fs ++ [_]).length ≤ a.ops + 1 + 64
        rw [List.length_append]
        simp only [List.length_cons, List.length_nil]
        omega
    · split
      · exact this
      · show (a.fs.set _ _).length ≤ a.ops + 1 + 64
        rw [List.length_set]; omega
theorem ADk.poke_okf {a : ADk} (h : a.Okf) (s : Nm) (k : Int) (b : UInt8) : (a.poke s k b).2.Okf := by
  refine ⟨a.poke_ok h.ok s k b, ?_⟩
  have := h.few
  unfold ADk.poke
  split
  · exact this
  · split
    · exact this
    · split
      · exact this
      · show (a.fs.set _ _).length ≤ a.ops + 64
        rw [List.length_set]; exact this
theorem ADk.crash_okf {a : ADk} (h : a.Okf) (k d t : Int) : (a.crash k d t).Okf := by
  refine ⟨a.crash_ok h.ok k d t, ?_⟩
  obtain ⟨l, hl, hd⟩ := h.ok.prefix d.toNat
  rw [crash_eq d hl]
  show (l.map _).length ≤ 0 + 64
  rw [List.length_map]
  exact hd.len

/-- Two lists of names, that may be one. -/
def Part.two (v1 : Value) (l1 : Dir) (v2 : Value) (l2 : Dir) : Part where
  at_ w fp := w.ownsRow 0 97 2 v1 l1.length (nmFlat l1) ∧ w.ownsRow 0 97 2 v2 l2.length (nmFlat l2) ∧ fp = rowsOf v1 ++ rowsOf v2
  lt := by
    rintro w fp ⟨h1, h2, rfl⟩ x hx
    rcases List.mem_append.1 hx with h | h
    · exact (Part.nms v1 l1).lt (w := w) (fp := rowsOf v1) ⟨h1, rfl⟩ x h
    · exact (Part.nms v2 l2).lt (w := w) (fp := rowsOf v2) ⟨h2, rfl⟩ x h
  kept := by
    rintro own w w' fp ⟨h1, h2, rfl⟩ k hn
    exact ⟨((Part.nms v1 l1).kept (w := w) (fp := rowsOf v1) ⟨h1, rfl⟩ k fun x hx => hn x (by simp [hx])).1, ((Part.nms v2 l2).kept (w := w) (fp := rowsOf v2) ⟨h2, rfl⟩ k fun x hx => hn x (by simp [hx])).1, rfl⟩

section
variable {v1 v2 v : Value} {l1 l2 l : Dir}
theorem Has.two1 (h : Has o w0 w (.two v1 l1 v2 l2)) : DirAt w v1 l1 := by
  obtain ⟨_, ⟨hr, _, _⟩, _⟩ := h
  exact dirAt_of hr
theorem Has.two2 (h : Has o w0 w (.two v1 l1 v2 l2)) : DirAt w v2 l2 := by
  obtain ⟨_, ⟨_, hr, _⟩, _⟩ := h
  exact dirAt_of hr
/-- The first one is another one now. -/
theorem Has.twoPut (h : Has o w0 w (.two v1 l1 v2 l2)) (hB : Has [] w w' (.nms v l)) : Has o w0 w' (.two v l v2 l2) := by
  obtain ⟨fp, ⟨h1, h2, rfl⟩, hn, k⟩ := h
  obtain ⟨g, ⟨hg, rfl⟩, hgn, k'⟩ := hB
  have h2' := ((Part.nms v2 l2).kept (w := w) (fp := rowsOf v2) ⟨h2, rfl⟩ k' (by simp)).1
  refine ⟨_, ⟨hg, h2', rfl⟩, ?_, k.trans k' (by simp)⟩
  intro x hx
  rcases List.mem_append.1 hx with h | h
  · right; have := (hgn x h).resolve_left (by simp); have := k.size; omega
  · exact hn x (by simp [h])
/-- The second one is the first one now. -/
theorem Has.twoSame (h : Has o w0 w (.two v1 l1 v2 l2)) : Has o w0 w (.two v1 l1 v1 l1) := by
  obtain ⟨fp, ⟨h1, h2, rfl⟩, hn, k⟩ := h
  exact ⟨_, ⟨h1, h1, rfl⟩, fun x hx => hn x (by simp at hx; simp [hx]), k⟩
end

def chgFlat (l : List Chg) : List Value := l.flatMap fun c => (chgVals c).toList

def rfCells (fv ov lv nv : Value) (a : ADk) : Nat → Value
  | 0 => fv
  | 1 => ov
  | 2 => lv
  | 3 => nv
  | 4 => .int .i64 a.ops
  | 5 => .int .i64 a.cut
  | 6 => .bool a.off
  | _ => .pointer none

structure RLay where
  nv : Value
  ov : Value
  lv : Value
  fv : Value
  addr : Nat → Nat
  bv : Nat → Value

def fileRP (ad : Nat) (v : Value) (x : AFile) : Part :=
  (Part.blk ad 2 90 (fileCells v x.sy)).sep (.row 5 1 v x.b.length (bytesV x.b))

def ptrsV (ad : Nat → Nat) (n : Nat) : List Value := (List.range n).map fun i => ptr (ad i)

/-- The five parts. -/
def RfC (rb : Nat) (f : Nat → Value) (nv : Value) (now : Dir) (ov : Value) (old : Dir) (lv : Value) (lg : List Chg) (fv : Value) (ps : List Value) (n : Nat) (fp : Nat → Part) : Part :=
  (Part.blk rb 7 82 f).sep ((Part.two nv now ov old).sep ((Part.row 94 3 lv lg.length (chgFlat lg)).sep ((Part.row 91 1 fv ps.length ps).sep (Part.all n fp))))

def RfL (rb : Nat) (a : ADk) (L : RLay) : Part :=
  RfC rb (rfCells L.fv L.ov L.lv L.nv a) L.nv a.now L.ov a.old L.lv a.log L.fv (ptrsV L.addr a.fs.length) a.fs.length (fun i => fileRP (L.addr i) (L.bv i) (a.file i))

/-- The reference's disk at block rb, that is as a says. -/
def Rf (rb : Nat) (a : ADk) : Part := .when a.Okf (.ex (RfL rb a))

section
variable {rb : Nat} {f : Nat → Value} {nv ov lv fv : Value} {now old : Dir} {lg : List Chg} {ps : List Value} {n : Nat} {fp : Nat → Part}

theorem Has.rfCell (h : Has o w0 w (RfC rb f nv now ov old lv lg fv ps n fp)) {i : Nat} (hi : i < 7) :
    w.cell? ⟨rb, i, none⟩ = some (f i) ∧ w.frozen? ⟨rb, i, none⟩ = false ∧ ∀ u, Has o w0 (w.setCell ⟨rb, i, none⟩ u) (RfC rb (upd f i u) nv now ov old lv lg fv ps n fp) := by
  obtain ⟨o', h1, _, _, back⟩ := h.left
  obtain ⟨a, b, c⟩ := h1.blkAt hi
  exact ⟨a, b, fun u => back _ _ (c u)⟩

theorem Has.rfTwo (h : Has o w0 w (RfC rb f nv now ov old lv lg fv ps n fp)) :
    ∃ o', Has o' w w (.two nv now ov old) ∧ ∀ w' nv' now' ov' old', Has o' w w' (.two nv' now' ov' old') → Has o w0 w' (RfC rb f nv' now' ov' old' lv lg fv ps n fp) := by
  obtain ⟨o1, h1, s1, _, b1⟩ := h.right
  obtain ⟨o2, h2, s2, _, b2⟩ := h1.left
  exact ⟨o2, h2, fun w' nv' now' ov' old' h' => b1 _ _ (b2 _ _ h')⟩

theorem Has.rfLog (h : Has o w0 w (RfC rb f nv now ov old lv lg fv ps n fp)) :
    ∃ o', Has o' w w (.row 94 3 lv lg.length (chgFlat lg)) ∧ ∀ w' lv' lg', Has o' w w' (.row 94 3 lv' lg'.length (chgFlat lg')) → Has o w0 w' (RfC rb f nv now ov old lv' lg' fv ps n fp) := by
  obtain ⟨o1, h1, s1, _, b1⟩ := h.right
  obtain ⟨o2, h2, s2, _, b2⟩ := h1.right
  obtain ⟨o3, h3, s3, _, b3⟩ := h2.left
  exact ⟨o3, h3, fun w' lv' lg' h' => b1 _ _ (b2 _ _ (b3 _ _ h'))⟩

theorem Has.rfPtrs (h : Has o w0 w (RfC rb f nv now ov old lv lg fv ps n fp)) :
    ∃ o', Has o' w w (.row 91 1 fv ps.length ps) ∧ ∀ w' fv' ps', Has o' w w' (.row 91 1 fv' ps'.length ps') → Has o w0 w' (RfC rb f nv now ov old lv lg fv' ps' n fp) := by
  obtain ⟨o1, h1, s1, _, b1⟩ := h.right
  obtain ⟨o2, h2, s2, _, b2⟩ := h1.right
  obtain ⟨o3, h3, s3, _, b3⟩ := h2.right
  obtain ⟨o4, h4, s4, _, b4⟩ := h3.left
  exact ⟨o4, h4, fun w' fv' ps' h' => b1 _ _ (b2 _ _ (b3 _ _ (b4 _ _ h')))⟩

theorem Has.rfFiles (h : Has o w0 w (RfC rb f nv now ov old lv lg fv ps n fp)) :
    ∃ o', Has o' w w (.all n fp) ∧ ∀ w' n' fp', Has o' w w' (.all n' fp') → Has o w0 w' (RfC rb f nv now ov old lv lg fv ps n' fp') := by
  obtain ⟨o1, h1, s1, _, b1⟩ := h.right
  obtain ⟨o2, h2, s2, _, b2⟩ := h1.right
  obtain ⟨o3, h3, s3, _, b3⟩ := h2.right
  obtain ⟨o4, h4, s4, _, b4⟩ := h3.right
  exact ⟨o4, h4, fun w' n' fp' h' => b1 _ _ (b2 _ _ (b3 _ _ (b4 _ _ h')))⟩
end

variable {rb : Nat} {a : ADk} {L : RLay}

theorem rf_okf (h : Has o w0 w (Rf rb a)) : a.Okf := h.whenOut.1
theorem rf_open (h : Has o w0 w (Rf rb a)) : a.Ok ∧ ∃ L, Has o w0 w (RfL rb a L) := ⟨h.whenOut.1.ok, h.whenOut.2.exOut⟩
theorem rf_shut (ha : a.Okf) (L : RLay) (h : Has o w0 w (RfL rb a L)) : Has o w0 w (Rf rb a) := Has.whenIn ha (h.exIn L)

theorem rfl_cell (h : Has o w0 w (RfL rb a L)) (i : Nat) (hi : i < 7) : w.cell? ⟨rb, i, none⟩ = some (rfCells L.fv L.ov L.lv L.nv a i) ∧ w.frozen? ⟨rb, i, none⟩ = false := ⟨(h.rfCell hi).1, (h.rfCell hi).2.1⟩

theorem rfl_ops (h : Has o w0 w (RfL rb a L)) (n : Nat) : Has o w0 (w.setCell ⟨rb, 4, none⟩ (.int .i64 n)) (RfL rb { a with ops := n } L) := by
  have := (h.rfCell (i := 4) (by omega)).2.2 (.int .i64 n)
  have e : upd (rfCells L.fv L.ov L.lv L.nv a) 4 (.int .i64 n) = rfCells L.fv L.ov L.lv L.nv { a with ops := n } := by
    funext i
    unfold upd
    match i with
    | 0 | 1 | 2 | 3 | 5 | 6 => rfl
    | 4 => rfl
    | i + 7 => rfl
  rw [e] at this
  exact this
theorem rfl_cut (h : Has o w0 w (RfL rb a L)) (n : Int) : Has o w0 (w.setCell ⟨rb, 5, none⟩ (.int .i64 n)) (RfL rb { a with cut := n } L) := by
  have := (h.rfCell (i := 5) (by omega)).2.2 (.int .i64 n)
  have e : upd (rfCells L.fv L.ov L.lv L.nv a) 5 (.int .i64 n) = rfCells L.fv L.ov L.lv L.nv { a with cut := n } := by
    funext i
    unfold upd
    match i with
    | 0 | 1 | 2 | 3 | 4 | 6 => rfl
    | 5 => rfl
    | i + 7 => rfl
  rw [e] at this
  exact this
theorem rfl_off (h : Has o w0 w (RfL rb a L)) (b : Bool) : Has o w0 (w.setCell ⟨rb, 6, none⟩ (.bool b)) (RfL rb { a with off := b } L) := by
  have := (h.rfCell (i := 6) (by omega)).2.2 (.bool b)
  have e : upd (rfCells L.fv L.ov L.lv L.nv a) 6 (.bool b) = rfCells L.fv L.ov L.lv L.nv { a with off := b } := by
    funext i
    unfold upd
    match i with
    | 0 | 1 | 2 | 3 | 4 | 5 => rfl
    | 6 => rfl
    | i + 7 => rfl
  rw [e] at this
  exact this

theorem rfl_now (h : Has o w0 w (RfL rb a L)) : DirAt w L.nv a.now := by
  obtain ⟨o', h', _⟩ := h.rfTwo
  exact h'.two1
theorem rfl_old (h : Has o w0 w (RfL rb a L)) : DirAt w L.ov a.old := by
  obtain ⟨o', h', _⟩ := h.rfTwo
  exact h'.two2

/-- A file's pointer in the row of files. -/
theorem rfl_ptr (h : Has o w0 w (RfL rb a L)) {i : Nat} (hi : i < a.fs.length) : ∃ g c, L.fv = .slice (some ⟨g, 0, none⟩) a.fs.length c ∧ a.fs.length ≤ c ∧ g < w.heap.size ∧ w.cell? ⟨g, i, none⟩ = some (ptr (L.addr i)) := by
  obtain ⟨o', ⟨_, ⟨hr, _⟩, _⟩, _⟩ := h.rfPtrs
  have e : (ptrsV L.addr a.fs.length).length = a.fs.length := by simp [ptrsV]
  rw [e] at hr
  obtain ⟨g, c, hv, h1, h2, h3, h4, h5⟩ := row_out hr (by omega)
  exact ⟨g, c, hv, h1, by omega, h5 i _ (by unfold ptrsV; rw [List.getElem?_map, List.getElem?_range hi]; rfl)⟩

theorem rfl_file (h : Has o w0 w (RfL rb a L)) {i : Nat} (hi : i < a.fs.length) : ∃ o', Has o' w w (fileRP (L.addr i) (L.bv i) (a.file i)) ∧
    ∀ w' v x, Has o' w w' (fileRP (L.addr i) v x) → Has o w0 w' (RfL rb { a with fs := a.fs.set i x } { L with bv := fun j => if j = i then v else L.bv j }) := by
  obtain ⟨o1, h1, b1⟩ := h.rfFiles
  obtain ⟨o', h', s2, _, b2⟩ := h1.pick hi
  refine ⟨o', h', fun w' v x hx => ?_⟩
  have := b1 w' _ _ (b2 w' _ hx)
  have e : updP (fun i => fileRP (L.addr i) (L.bv i) (a.file i)) i (fileRP (L.addr i) v x) = fun j => fileRP (L.addr j) (if j = i then v else L.bv j) (if j = i then x else a.file j) := by
    funext j
    unfold updP
    by_cases e : j = i
    · subst e; simp
    · simp [if_neg e]
  rw [e] at this
  have e2 : ∀ j, j < a.fs.length → (if j = i then x else a.file j) = ({ a with fs := a.fs.set i x } : ADk).file j := by
    intro j hj
    unfold ADk.file
    rw [List.getD_eq_getElem?_getD, List.getD_eq_getElem?_getD, List.getElem?_set]
    by_cases e : i = j
    · subst e; simp [hj]
    · rw [if_neg e, if_neg (fun h => e h.symm)]
  obtain ⟨o2, h2, b3⟩ := this.rfFiles
  have h3 := b3 w' (a.fs.set i x).length (fun j => fileRP (L.addr j) (if j = i then v else L.bv j) (({ a with fs := a.fs.set i x } : ADk).file j)) (by
    rw [List.length_set]
    exact h2.congr fun j hj => by rw [e2 j hj])
  have e3 : ptrsV L.addr (a.fs.set i x).length = ptrsV L.addr a.fs.length := by rw [List.length_set]
  unfold RfL
  rw [e3]
  exact h3

theorem fileR_at {ad : Nat} {v : Value} {x : AFile} (h : Has o w0 w (fileRP ad v x)) : w.cell? ⟨ad, 0, none⟩ = some v ∧ w.cell? ⟨ad, 1, none⟩ = some (.int .i64 x.sy) ∧ (∀ i, i < 2 → w.frozen? ⟨ad, i, none⟩ = false) ∧ BytesAt w v x.b ∧ (∃ p c, v = .slice p x.b.length c) ∧ w.ownsRow 0 5 1 v x.b.length (bytesV x.b) := by
  obtain ⟨o1, h1, _⟩ := h.left
  obtain ⟨o2, ⟨_, ⟨h2, _⟩, _⟩, _⟩ := h.right
  have hb := bytesAt_row h2
  obtain ⟨p, c, e, _⟩ := hb.out
  exact ⟨(h1.blkAt (i := 0) (by omega)).1, (h1.blkAt (i := 1) (by omega)).1, fun i hi => (h1.blkAt hi).2.1, hb, ⟨p, c, e⟩, h2⟩

/-! ### New, CutAt, may -/
theorem rnew_walk (w : World) : Calls Try.prog 24 #[] w fun e w' => ∃ rb, e = .returned (ptr rb) ∧ Has [] w w' (Rf rb ADk.new) := by
  go_enter Try.func24, Try.ntmps24
  go_wp2_with fail
  go_ret
  refine ⟨w.heap.size, rfl, rf_shut ADk.new_okf ⟨.slice none 0 0, .slice none 0 0, .slice none 0 0, .slice none 0 0, fun _ => 0, fun _ => .slice none 0 0⟩ ?_⟩
  have hB := Has.madeBlk (w := w) #[.slice none 0 0, .slice none 0 0, .slice none 0 0, .slice none 0 0, .int .i64 0, .int .i64 (-1), .bool false] 82 (rfCells (.slice none 0 0) (.slice none 0 0) (.slice none 0 0) (.slice none 0 0) ADk.new) 7 rfl (by
    intro i hi
    match i with
    | 0 | 1 | 2 | 3 | 4 | 5 | 6 => rfl
    | i + 7 => omega)
  have h2 : Has [] (w.alloc (.cells #[.slice none 0 0, .slice none 0 0, .slice none 0 0, .slice none 0 0, .int .i64 0, .int .i64 (-1), .bool false] 82)) _ (Part.two (.slice none 0 0) [] (.slice none 0 0) []) :=
    ⟨[], ⟨World.ownsRow_nil _ _ _ _, World.ownsRow_nil _ _ _ _, by simp [rowsOf, Value.ownBlock]⟩, by simp, Kept.refl _ _⟩
  have h3 : Has [] (w.alloc (.cells #[.slice none 0 0, .slice none 0 0, .slice none 0 0, .slice none 0 0, .int .i64 0, .int .i64 (-1), .bool false] 82)) _ (Part.row 94 3 (.slice none 0 0) 0 []) :=
    ⟨[], ⟨World.ownsRow_nil _ _ _ _, by simp [rowsOf, Value.ownBlock]⟩, by simp, Kept.refl _ _⟩
  have h4 : Has [] (w.alloc (.cells #[.slice none 0 0, .slice none 0 0, .slice none 0 0, .slice none 0 0, .int .i64 0, .int .i64 (-1), .bool false] 82)) _ (Part.row 91 1 (.slice none 0 0) 0 []) :=
    ⟨[], ⟨World.ownsRow_nil _ _ _ _, by simp [rowsOf, Value.ownBlock]⟩, by simp, Kept.refl _ _⟩
  exact hB.beside (h2.beside (h3.beside (h4.beside (Has.nothing _))))

theorem rcutAt_walk (h : Has o w0 w (Rf rb a)) (n : Int) : Calls Try.prog 46 #[ptr rb, .int .i64 n] w fun e w' => e = .returned (.tuple #[]) ∧ Has o w0 w' (Rf rb (a.cutAt n)) := by
  obtain ⟨ha, L, hL⟩ := rf_open h
  obtain ⟨c5, f5⟩ := rfl_cell hL 5 (by omega)
  obtain ⟨c6, f6⟩ := rfl_cell hL 6 (by omega)
  have hP := Lib.hid (rf_shut (a.cutAt_okf (rf_okf h) n) L (rfl_off (rfl_cut hL n) false))
  clear hL h ha
  unfold ptr
  go_enter Try.func46, Try.ntmps46
  go_wp2
  go_end0
  exact ⟨rfl, hP.out⟩
end Go.Proofs.Ytbankfdgoolbdaa
namespace Go.Proofs.Ytbankfdgoolbdaa
open Go Go.RowKit Go.Lib
set_option linter.unusedVariables false
variable {o : List Nat} {w0 w w' w1 : World} {rb : Nat} {a : ADk} {L : RLay}

theorem powered_is (a : ADk) : a.powered = if 0 ≤ a.cut ∧ a.cut ≤ a.ops then { a with off := true } else a := by
  unfold ADk.powered
  by_cases h : 0 ≤ a.cut ∧ a.cut ≤ a.ops
  · rw [if_pos h, decide_eq_true h.1, decide_eq_true h.2]; simp
  · rw [if_neg h]
    have : (decide (0 ≤ a.cut) && decide (a.cut ≤ (a.ops : Int))) = false := by
      rw [← Bool.not_eq_true]; simpa using h
    rw [this]; simp

set_option maxHeartbeats 1000000 in
theorem may_walk (h : Has o w0 w (Rf rb a)) : Calls Try.prog 57 #[ptr rb] w fun e w' => e = .returned (.bool (!a.powered.off)) ∧ Has o w0 w' (Rf rb a.powered) := by
  obtain ⟨ha, L, hL⟩ := rf_open h
  have hLd := hL.drewN 1
  change Has o w0 w.drew _ at hLd
  have c4 : w.drew.cell? ⟨rb, 4, none⟩ = some (.int .i64 a.ops) := (rfl_cell hLd 4 (by omega)).1
  have c5 : w.drew.cell? ⟨rb, 5, none⟩ = some (.int .i64 a.cut) := (rfl_cell hLd 5 (by omega)).1
  obtain ⟨c6, f6⟩ : w.drew.cell? ⟨rb, 6, none⟩ = some (.bool a.off) ∧ w.drew.frozen? ⟨rb, 6, none⟩ = false := rfl_cell hLd 6 (by omega)
  have hP := Lib.hid (rf_shut (rf_okf h) L hLd)
  have hP2 := Lib.hid (rf_shut (a := { a with off := true }) ⟨⟨ha.log, ha.old, ha.rise, ha.nms, ha.lognm, ha.ids, ha.logids, ha.fs, ha.ops, ha.loglen⟩, (rf_okf h).few⟩ L (rfl_off hLd true))
  have HP := Lib.hid (powered_is a)
  clear hL h ha hLd
  unfold ptr
  by_cases h0 : 0 ≤ a.cut
  · have d1 : (0 ≤ a.cut) ↔ True := by simp; omega
    by_cases h1 : a.cut ≤ a.ops
    · have d2 : (a.cut ≤ (a.ops : Int)) ↔ True := by simp; omega
      have HE := Lib.hid (HP.out.trans (if_pos ⟨h0, h1⟩))
      clear h0 h1
      go_enter Try.func57, Try.ntmps57
      go_wp2_with fail
      go_region
      generalize w.drew = W at *
      go_wp2_with fail
      go_ret
      rw [HE.out]
      exact ⟨rfl, hP2.out⟩
    · have d2 : (a.cut ≤ (a.ops : Int)) ↔ False := by simp; omega
      have HE := Lib.hid (HP.out.trans (if_neg fun h => h1 h.2))
      clear h0 h1
      go_enter Try.func57, Try.ntmps57
      go_wp2_with fail
      go_region
      go_wp2_with fail
      go_ret
      rw [HE.out]
      exact ⟨rfl, hP.out⟩
  · have d1 : (0 ≤ a.cut) ↔ False := by simp; omega
    have HE := Lib.hid (HP.out.trans (if_neg fun h => h0 h.1))
    clear h0
    go_enter Try.func57, Try.ntmps57
    go_wp2_with fail
    go_region
    go_wp2_with fail
    go_ret
    rw [HE.out]
    exact ⟨rfl, hP.out⟩

theorem Rf.keeps (h : Has o w0 w (Rf rb a)) (k : Kept [] w w') : Has o w0 w' (Rf rb a) := h.quiet k

/-- May an operation of these two names be done? -/
theorem bad_two (a : ADk) (s t : Nm) : a.bad true [s, t] = if a.off then 24 else if (isNm s && isNm t) = false then 20 else if (alFind a.now s).isNone then 21 else if 65536 ≤ a.ops then 23 else 0 := by
  unfold ADk.bad
  simp

theorem found_neg (l : Dir) (s : Nm) : ((foundV l s < 0) ↔ ((alFind l s).isNone = true)) := by
  unfold foundV
  cases alFind l s with
  | none => simp
  | some i => simp

set_option maxHeartbeats 2000000 in
theorem ready_walk (h : Has o w0 w (Rf rb a)) (x y : ByteArray) (hx : x.size ≤ maxLen) (hy : y.size ≤ maxLen) :
    Calls Try.prog 60 #[ptr rb, .string x, .string y] w fun e w' => e = .returned (.int .i64 (a.powered.bad true [x.data.toList, y.data.toList])) ∧ Has o w0 w' (Rf rb a.powered) := by
  have HB := Lib.hid (bad_two a.powered x.data.toList y.data.toList)
  have HX := Lib.hid (fun W => refName_walk x W hx)
  have HY := Lib.hid (fun W => refName_walk y W hy)
  have HH := Lib.hid h
  clear h hx hy
  unfold ptr
  go_enter Try.func60, Try.ntmps60
  go_wp2_with fail
  refine (HX.out _).mono ?_
  rintro e w2 ⟨rfl, k2⟩
  have H2 := Lib.hid (HH.out.quiet k2)
  clear k2 HX
  go_wp2_with fail
  refine (HY.out _).mono ?_
  rintro e w3 ⟨rfl, k3⟩
  have HM := Lib.hid (may_walk (H2.out.quiet k3))
  unfold ptr at HM
  clear k3 HY H2
  go_wp2_with fail
  refine HM.out.mono ?_
  rintro e w4 ⟨rfl, h4⟩
  have H4 := Lib.hid h4
  obtain ⟨hok, L, hL⟩ := rf_open h4
  have c3 : w4.cell? ⟨rb, 3, none⟩ = some L.nv := (rfl_cell hL 3 (by omega)).1
  have c4 : w4.cell? ⟨rb, 4, none⟩ = some (.int .i64 a.powered.ops) := (rfl_cell hL 4 (by omega)).1
  have HF := Lib.hid (find_walk (rfl_now hL) x)
  have HN := Lib.hid (found_neg a.powered.now x.data.toList)
  obtain ⟨np, nc, hnv, _⟩ := (rfl_now hL).len
  rw [hnv] at HF c3
  clear h4 hok hL HM hnv
  generalize hq : a.powered = q at *
  generalize hv : foundV q.now x.data.toList = fv at *
  generalize q.now.length = nl at *
  have HQ := Lib.hid hq
  clear hq hv HH
  cases hoff : q.off with
  | true =>
    have HE := Lib.hid (HB.out.trans (by rw [hoff]; rfl) : q.bad true [x.data.toList, y.data.toList] = 24)
    clear hoff
    go_wp2_with fail
    go_ret
    rw [HQ.out, HE.out]
    exact ⟨rfl, H4.out⟩
  | false =>
    cases h1 : isNm x.data.toList with
    | false =>
      have HE := Lib.hid (HB.out.trans (by rw [hoff, h1]; rfl) : q.bad true [x.data.toList, y.data.toList] = 20)
      clear hoff h1
      go_wp2_with fail
      go_ret
      rw [HQ.out, HE.out]
      exact ⟨rfl, H4.out⟩
    | true =>
      cases h2 : isNm y.data.toList with
      | false =>
        have HE := Lib.hid (HB.out.trans (by rw [hoff, h1, h2]; rfl) : q.bad true [x.data.toList, y.data.toList] = 20)
        clear hoff h1 h2
        go_wp2_with fail
        go_ret
        rw [HQ.out, HE.out]
        exact ⟨rfl, H4.out⟩
      | true =>
        by_cases hf : fv < 0
        · have d1 : (fv < 0) ↔ True := by simp; omega
          have HE := Lib.hid (HB.out.trans (by rw [hoff, h1, h2, HN.out.1 hf]; rfl) : q.bad true [x.data.toList, y.data.toList] = 21)
          clear hoff h1 h2 hf
          go_wp2_with fail
          refine HF.out.mono ?_
          rintro e w5 ⟨rfl, rfl⟩
          go_wp2_with fail
          go_ret
          rw [HQ.out, HE.out]
          exact ⟨rfl, H4.out⟩
        · have d1 : (fv < 0) ↔ False := by simp; omega
          have hsome : (alFind q.now x.data.toList).isNone = false := by
            cases hb : (alFind q.now x.data.toList).isNone with
            | false => rfl
            | true => exact absurd (HN.out.2 hb) hf
          by_cases ho : 65536 ≤ q.ops
          · have d2 : ((65536 : Int) ≤ (q.ops : Int)) ↔ True := by simp; omega
            have HE := Lib.hid (HB.out.trans (by rw [hoff, h1, h2, hsome, if_pos ho]; rfl) : q.bad true [x.data.toList, y.data.toList] = 23)
            clear hoff h1 h2 hf hsome ho
            go_wp2_with fail
            refine HF.out.mono ?_
            rintro e w5 ⟨rfl, rfl⟩
            go_wp2_with fail
            go_ret
            rw [HQ.out, HE.out]
            exact ⟨rfl, H4.out⟩
          · have d2 : ((65536 : Int) ≤ (q.ops : Int)) ↔ False := by simp; omega
            have HE := Lib.hid (HB.out.trans (by rw [hoff, h1, h2, hsome, if_neg ho]; rfl) : q.bad true [x.data.toList, y.data.toList] = 0)
            clear hoff h1 h2 hf hsome ho
            go_wp2_with fail
            refine HF.out.mono ?_
            rintro e w5 ⟨rfl, rfl⟩
            go_wp2_with fail
            go_ret
            rw [HQ.out, HE.out]
            exact ⟨rfl, H4.out⟩

set_option maxHeartbeats 1000000 in
theorem rread_walk (h : Has o w0 w (Rf rb a)) (x : ByteArray) (hx : x.size ≤ maxLen) :
    Calls Try.prog 41 #[ptr rb, .string x] w fun e w' => ∃ v, e = .returned (.tuple #[v, .int .i64 (a.read x.data.toList).2]) ∧ BytesAt w' v (a.read x.data.toList).1 ∧ Kept [] w w' := by
  obtain ⟨ha, L, hL⟩ := rf_open h
  have HX := Lib.hid (refName_walk x w hx)
  have c6 : w.cell? ⟨rb, 6, none⟩ = some (.bool a.off) := (rfl_cell hL 6 (by omega)).1
  clear h hx
  unfold ptr
  cases hoff : a.off with
  | true =>
    rw [show a.read x.data.toList = ([], 24) by unfold ADk.read; rw [hoff]; rfl]
    rw [hoff] at c6
    clear hL ha hoff HX
    go_enter Try.func41, Try.ntmps41
    go_wp2_with fail
    go_ret2
    exact ⟨_, rfl, bytes_none _, Kept.refl _ _⟩
  | false =>
    rw [hoff] at c6
    cases hnm : isNm x.data.toList with
    | false =>
      rw [show a.read x.data.toList = ([], 20) by unfold ADk.read; rw [hoff, hnm]; rfl]
      rw [hnm] at HX
      clear hL ha hoff hnm
      go_enter Try.func41, Try.ntmps41
      go_wp2_with fail
      refine HX.out.mono ?_
      rintro e w2 ⟨rfl, k2⟩
      have K2 := Lib.hid k2
      clear k2 HX
      go_wp2_with fail
      go_ret2
      exact ⟨_, rfl, bytes_none _, K2.out⟩
    | true =>
      rw [hnm] at HX
      have HL := Lib.hid hL
      have HA := Lib.hid ha
      have HRD : Hid (a.read x.data.toList = match alFind a.now x.data.toList with | none => ([], 21) | some i => ((a.file i).b, 0)) := Lib.hid (by unfold ADk.read; rw [hoff, hnm]; rfl)
      clear hL ha hoff hnm
      go_enter Try.func41, Try.ntmps41
      go_wp2_with fail
      refine HX.out.mono ?_
      rintro e w2 ⟨rfl, k2⟩
      have hL2 := HL.out.quiet k2
      have K2 := Lib.hid k2
      have c3 : w2.cell? ⟨rb, 3, none⟩ = some L.nv := (rfl_cell hL2 3 (by omega)).1
      have c0 : w2.cell? ⟨rb, 0, none⟩ = some L.fv := (rfl_cell hL2 0 (by omega)).1
      have HF := Lib.hid (find_walk (rfl_now hL2) x)
      obtain ⟨np, nc, hnv, _⟩ := (rfl_now hL2).len
      rw [hnv] at HF c3
      cases hf : alFind a.now x.data.toList with
      | none =>
        have HE : Hid (a.read x.data.toList = ([], 21)) := Lib.hid (by rw [HRD.out, hf])
        rw [show foundV a.now x.data.toList = -1 by unfold foundV; rw [hf]] at HF
        generalize a.now.length = nl at *
        clear hL2 k2 hnv hf c0 HX
        go_wp2_with fail
        refine HF.out.mono ?_
        rintro e w5 ⟨rfl, rfl⟩
        go_wp2_with fail
        go_ret2
        rw [HE.out]
        exact ⟨_, rfl, bytes_none _, K2.out⟩
      | some i =>
        have HE : Hid (a.read x.data.toList = ((a.file i).b, 0)) := Lib.hid (by rw [HRD.out, hf])
        rw [show foundV a.now x.data.toList = (i : Nat) by unfold foundV; rw [hf]] at HF
        have hil : i < a.fs.length := HA.out.now.ids _ (alFind_mem hf)
        obtain ⟨g, c, hfv, hgc, _, cp⟩ := rfl_ptr hL2 hil
        rw [hfv] at c0
        obtain ⟨o9, hF9, _⟩ := rfl_file hL2 hil
        obtain ⟨e0, _, _, hbt, ⟨bp, bc, hbv⟩, _⟩ := fileR_at hF9
        have HBT := Lib.hid hbt
        rw [hbv] at e0 HBT
        unfold ptr at cp
        have hd : decide (i < a.fs.length) = true := decide_eq_true hil
        have hdc : i < c := by omega
        have d1 : ((i : Int) < 0) ↔ False := by simp
        generalize a.now.length = nl at *
        generalize a.fs.length = fl at *
        clear hL2 k2 hnv hf hF9 hbt hbv hfv HX HL
        go_wp2_with fail
        refine HF.out.mono ?_
        rintro e w5 ⟨rfl, rfl⟩
        go_wp2_with fail
        go_ret2
        rw [HE.out]
        exact ⟨_, rfl, HBT.out, K2.out⟩
end Go.Proofs.Ytbankfdgoolbdaa
namespace Go.Proofs.Ytbankfdgoolbdaa
open Go Go.RowKit Go.Lib
set_option linter.unusedVariables false
variable {o : List Nat} {w0 w w' w1 : World} {rb : Nat} {a : ADk} {L : RLay} {l' : Dir}

theorem info_chg : (Try.prog.info? 94).map (fun i => (i.zero, i.size, i.bytes)) = some (some (.agg #[.string ⟨#[]⟩, .string ⟨#[]⟩, .int .i64 0]), 3, 40) := by kernel_rfl

theorem chgVals_is (c : Chg) : ∃ A B n, chgVals c = #[.string A, .string B, .int .i64 n] := by
  cases c <;> exact ⟨_, _, _, rfl⟩

theorem chgFlat_snoc (l : List Chg) (c : Chg) : chgFlat (l ++ [c]) = chgFlat l ++ (chgVals c).toList := by
  simp [chgFlat, List.flatMap_append]
theorem chgFlat_len : ∀ l : List Chg, (chgFlat l).length = l.length * 3
  | [] => rfl
  | c :: r => by
    show ((chgVals c).toList ++ chgFlat r).length = _
    rw [List.length_append, chgFlat_len r]
    obtain ⟨A, B, n, e⟩ := chgVals_is c
    rw [e]
    show 3 + _ = (r.length + 1) * 3
    omega

theorem rfl_setLv (h : Has o w0 w (RfL rb a L)) {v : Value} {lg : List Chg} (h2 : Has o w0 w1 (RfC rb (rfCells L.fv L.ov L.lv L.nv a) L.nv a.now L.ov a.old v lg L.fv (ptrsV L.addr a.fs.length) a.fs.length (fun i => fileRP (L.addr i) (L.bv i) (a.file i)))) :
    Has o w0 (w1.setCell ⟨rb, 2, none⟩ v) (RfL rb { a with log := lg } { L with lv := v }) := by
  have := (h2.rfCell (i := 2) (by omega)).2.2 v
  have e : upd (rfCells L.fv L.ov L.lv L.nv a) 2 v = rfCells L.fv L.ov v L.nv { a with log := lg } := by
    funext i
    unfold upd
    match i with
    | 0 | 1 | 3 | 4 | 5 | 6 => rfl
    | 2 => rfl
    | i + 7 => rfl
  rw [e] at this
  exact this

theorem rfl_setNow (h : Has o w0 w (RfL rb a L)) {v : Value} {l : Dir} (hB : Has [] w w1 (.nms v l)) : Has o w0 (w1.setCell ⟨rb, 3, none⟩ v) (RfL rb { a with now := l } { L with nv := v }) := by
  obtain ⟨o1, h1, b1⟩ := h.rfTwo
  have h2 := b1 w1 v l _ _ (h1.twoPut hB)
  have := (h2.rfCell (i := 3) (by omega)).2.2 v
  have e : upd (rfCells L.fv L.ov L.lv L.nv a) 3 v = rfCells L.fv L.ov L.lv v { a with now := l } := by
    funext i
    unfold upd
    match i with
    | 0 | 1 | 2 | 4 | 5 | 6 => rfl
    | 3 => rfl
    | i + 7 => rfl
  rw [e] at this
  exact this

set_option maxHeartbeats 4000000 in
set_option maxRecDepth 100000 in
theorem rchange_walk (h : Has o w0 w (RfL rb a L)) (hlog : a.log.length ≤ 65536) (hnow : a.now.length ≤ 64) (c : Chg) (hc : c.on a.now = some l') (hnm : c.named) :
    Calls Try.prog 59 #[ptr rb, .agg (chgVals c)] w fun e w' => e = .returned (.tuple #[]) ∧ ∃ L', Has o w0 w' (RfL rb (a.change c) L') := by
  obtain ⟨A, B, n, hv⟩ := chgVals_is c
  obtain ⟨i0, hi0, he0⟩ := Option.map_eq_some_iff.1 info_chg
  obtain ⟨hz0, hz1, hz2⟩ : i0.zero = some (.agg #[.string ⟨#[]⟩, .string ⟨#[]⟩, .int .i64 0]) ∧ i0.size = 3 ∧ i0.bytes = 40 := by simpa using he0
  have HCH := Lib.hid (fun (W : World) (v : Value) (hd : DirAt W v a.now) => changed_walk hd hnow c hc hnm)
  rw [hv] at HCH ⊢
  have hA : (a.change c).now = l' ∧ (a.change c).log = a.log ++ [c] := ⟨by show (c.on a.now).getD a.now = _; rw [hc]; rfl, rfl⟩
  have HV := Lib.hid hv
  -- the box beside
  have hbx := Has.madeBlk (w := w) #[.string A, .string B, .int .i64 n] 94 (fun i => (#[Value.string A, .string B, .int .i64 n] : Array Value).getD i (.pointer none)) 3 rfl (by
    intro i hi
    match i with
    | 0 | 1 | 2 => rfl
    | i + 3 => omega)
  have h1 := (h.beside hbx).drewN 1
  change Has o w0 (w.alloc (.cells #[.string A, .string B, .int .i64 n] 94)).drew _ at h1
  clear hbx
  clear h
  unfold ptr
  go_enter Try.func59, Try.ntmps59
  go_wp2_with fail
  generalize (w.alloc (.cells #[.string A, .string B, .int .i64 n] 94)) = Wa at *
  generalize w.heap.size = fb at *
  obtain ⟨_, hb1, _⟩ := h1.right
  have b0 : Wa.drew.cell? ⟨fb, 0, none⟩ = some (.string A) := (hb1.blkAt (i := 0) (by omega)).1
  have b1 : Wa.drew.cell? ⟨fb, 1, none⟩ = some (.string B) := (hb1.blkAt (i := 1) (by omega)).1
  have b2 : Wa.drew.cell? ⟨fb, 2, none⟩ = some (.int .i64 n) := (hb1.blkAt (i := 2) (by omega)).1
  obtain ⟨oL, h1, _, _, backL⟩ := h1.left
  -- the log grows
  obtain ⟨o2, hl2, back2⟩ := h1.rfLog
  obtain ⟨_, ⟨hr, _⟩, _⟩ := hl2.alloc (.cells #[.string A, .string B, .int .i64 n] 94)
  obtain ⟨v', w5, hrun, happ⟩ := run_append_new (P := Try.prog) (Wa.drew.alloc (.cells #[.string A, .string B, .int .i64 n] 94)) 80 80 94 i0 (.agg #[.string ⟨#[]⟩, .string ⟨#[]⟩, .int .i64 0]) 3 40 Try.underlying80 hi0 hz0 hz1 hz2 rfl (by decide) L.lv a.log.length (chgFlat a.log) hr ⟨Wa.drew.heap.size, 0, none⟩ 1 1 [.string A, .string B, .int .i64 n] rfl (cell_made _ _ _ _ rfl) (by intro u hu; simp at hu; rcases hu with rfl | rfl | rfl <;> rfl) (by simp only [maxLen]; omega) (by omega)
  have h5 : Has oL Wa.drew w5 (RfC rb (rfCells L.fv L.ov L.lv L.nv a) L.nv a.now L.ov a.old v' (a.log ++ [c]) L.fv (ptrsV L.addr a.fs.length) a.fs.length (fun i => fileRP (L.addr i) (L.bv i) (a.file i))) := by
    refine back2 w5 v' (a.log ++ [c]) ?_
    rw [chgFlat_snoc, HV.out, List.length_append]
    exact Has.rowAppend _ hl2 happ
  obtain ⟨c2, f2⟩ : Wa.drew.cell? ⟨rb, 2, none⟩ = some L.lv ∧ _ := rfl_cell h1 2 (by omega)
  obtain ⟨e2, g2, _⟩ := h5.rfCell (i := 2) (by omega)
  have e2 : w5.cell? ⟨rb, 2, none⟩ = some L.lv := e2
  have h6 := rfl_setLv h1 h5
  obtain ⟨vp, vn, vc, rfl⟩ : ∃ vp vn vc, v' = .slice vp vn vc := by
    rcases rowN_open happ.row with ⟨rfl, _⟩ | ⟨g, c, rfl, _⟩
    · exact ⟨_, _, _, rfl⟩
    · exact ⟨_, _, _, rfl⟩
  obtain ⟨lp, ln, lc, hlv⟩ : ∃ lp ln lc, L.lv = .slice lp ln lc := by
    rcases rowN_open hr with ⟨e, _⟩ | ⟨g, c, e, _⟩
    · exact ⟨_, _, _, e⟩
    · exact ⟨_, _, _, e⟩
  have h7 := (backL _ _ h6).drewN 1
  change Has o w0 (w5.setCell ⟨rb, 2, none⟩ (.slice vp vn vc)).drew _ at h7
  have HRUN : Hid (∀ ty, (Builtin.append_ #[80, 80] ty #[L.lv, .slice (some ⟨Wa.heap.size, 0, none⟩) 1 1]).run Try.prog (Wa.alloc (.cells #[.string A, .string B, .int .i64 n] 94)).drew = .ok (.slice vp vn vc) w5) := Lib.hid (fun _ => hrun)
  have c2a : (Wa.alloc (.cells #[.string A, .string B, .int .i64 n] 94)).cell? ⟨rb, 2, none⟩ = some L.lv := ((Kept.refl [] Wa.drew).alloc (.cells #[.string A, .string B, .int .i64 n] 94)).cell c2 (by simp)
  rw [hlv] at c2 c2a HRUN
  clear hl2 back2 hr hrun happ h5 h6 backL hb1 h1 hlv hz0 hz1 hz2 he0 hi0
  go_upto_region 1 with fail
  go_cut [] from 4 (fun wx => wx = w5.setCell ⟨rb, 2, none⟩ (.slice vp vn vc))
  case first =>
    go_region_law (refine step_append_run rfl (.tmp 8) (.tmp 10) 80 rfl _ _ rfl rfl HRUN.out ?_)
    all_goals (
      go_wp2_with fail
      go_meet
      exact rfl)
  case rest =>
  obtain rfl := hcut
  clear HRUN c2 c2a f2 e2 g2
  generalize (w5.setCell ⟨rb, 2, none⟩ (.slice vp vn vc)) = W6 at *
  obtain ⟨_, hb2, _⟩ := h7.right
  have b0 : W6.drew.cell? ⟨fb, 0, none⟩ = some (.string A) := (hb2.blkAt (i := 0) (by omega)).1
  have b1 : W6.drew.cell? ⟨fb, 1, none⟩ = some (.string B) := (hb2.blkAt (i := 1) (by omega)).1
  have b2 : W6.drew.cell? ⟨fb, 2, none⟩ = some (.int .i64 n) := (hb2.blkAt (i := 2) (by omega)).1
  have c30 := (rfl_cell h7.fst 3 (by omega)).1
  have c3 : W6.drew.cell? ⟨rb, 3, none⟩ = some L.nv := c30
  have hnow0 := rfl_now h7.fst
  have hnow7 : DirAt W6.drew L.nv a.now := hnow0
  have HC := Lib.hid (HCH.out W6.drew L.nv hnow7)
  obtain ⟨np, nc, hnv, _⟩ := hnow7.len
  have HNV := Lib.hid hnv
  rw [hnv] at c3 HC
  have H7 := Lib.hid h7.fst
  have HAA := Lib.hid hA
  clear hb2 h7 hnv hA HCH hnow7 hnow0 c30
  change Hid (Calls _ _ #[.slice np a.now.length nc, _] _ _) at HC
  generalize a.now.length = nl at *
  go_wp2_with fail
  go_region_law
    (first | ((first | go_simp | skip)
              go_at_call 61
              refine HC.out.mono ?_
              rintro e w8 ⟨v2, rfl, h8⟩
              obtain ⟨xp, xn, xc, rfl⟩ : ∃ xp xn xc, v2 = .slice xp xn xc := by
                rcases h8.dirAt with ⟨rfl, _⟩ | ⟨g, c, rfl, _⟩
                · exact ⟨_, _, _, rfl⟩
                · exact ⟨_, _, _, rfl⟩
              have hq := H7.out.quiet h8.keeps
              have hcc := rfl_cell hq 3 (by omega)
              obtain ⟨e3, g3⟩ : w8.cell? ⟨rb, 3, none⟩ = some L.nv ∧ w8.frozen? ⟨rb, 3, none⟩ = false := hcc
              rw [HNV.out] at e3
              have HF := Lib.hid (rfl_setNow H7.out h8)
              clear h8 hq))
  all_goals (
    go_wp2_with fail
    go_end0
    refine ⟨rfl, ?_⟩
    have e9 : (a.change c) = { { a with log := a.log ++ [c] } with now := l' } := by
      obtain ⟨f1, n1, o1, l1, p1, c1, b1⟩ := a
      have := HAA.out.1
      simp only [ADk.change] at this ⊢
      rw [this]
    rw [e9]
    exact ⟨_, HF.out⟩)
end Go.Proofs.Ytbankfdgoolbdaa
namespace Go.Proofs.Ytbankfdgoolbdaa
open Go Go.RowKit Go.Lib
set_option linter.unusedVariables false
variable {o : List Nat} {w0 w w' w1 : World} {rb : Nat} {a : ADk} {L : RLay} {l' : Dir}

theorem rfl_did (h : Has o w0 w (RfL rb a L)) : Has o w0 (w.setCell ⟨rb, 4, none⟩ (.int .i64 ((a.ops : Int) + 1))) (RfL rb a.did L) := rfl_ops h (a.ops + 1)

theorem ok_bounds (h : a.Ok) : a.log.length ≤ 65536 ∧ a.now.length ≤ 64 := ⟨by have := h.loglen; have := h.ops; omega, h.now.len⟩

theorem bad_one (a : ADk) (s : Nm) : a.bad true [s, s] = a.bad true [s] := by
  unfold ADk.bad
  simp

set_option maxHeartbeats 2000000 in
theorem rrename_walk (h : Has o w0 w (Rf rb a)) (x y : ByteArray) (hx : x.size ≤ maxLen) (hy : y.size ≤ maxLen) :
    Calls Try.prog 43 #[ptr rb, .string x, .string y] w fun e w' => e = .returned (.int .i64 (a.rename x.data.toList y.data.toList).1) ∧ Has o w0 w' (Rf rb (a.rename x.data.toList y.data.toList).2) := by
  have HR := Lib.hid (ready_walk h x y hx hy)
  have HOK := Lib.hid (rf_open h).1
  have HOF := Lib.hid (rf_okf h)
  have HE : Hid (a.rename x.data.toList y.data.toList = if a.powered.bad true [x.data.toList, y.data.toList] ≠ 0 then (a.powered.bad true [x.data.toList, y.data.toList], a.powered) else (0, (a.powered.change (.ren x.data.toList y.data.toList)).did)) := Lib.hid rfl
  clear h hx hy
  unfold ptr at *
  go_enter Try.func43, Try.ntmps43
  go_wp2_with fail
  refine HR.out.mono ?_
  rintro e w2 ⟨rfl, h2⟩
  clear HR
  by_cases hb : a.powered.bad true [x.data.toList, y.data.toList] = 0
  · obtain ⟨_, hnm, hth, hops⟩ := bad_off hb
    obtain ⟨i, hi⟩ := Option.isSome_iff_exists.1 (hth rfl)
    simp only [List.headD_cons] at hi
    simp only [List.all_cons, List.all_nil, Bool.and_true, Bool.and_eq_true] at hnm
    have hok := HOK.out.powered
    obtain ⟨_, L, hL⟩ := rf_open h2
    have HC := Lib.hid (rchange_walk hL (ok_bounds hok).1 (ok_bounds hok).2 (.ren x.data.toList y.data.toList) (l' := alPut (alDel a.powered.now x.data.toList) y.data.toList i) (by simp only [Chg.on, hi, Option.map_some]) hnm)
    have HRES := Lib.hid (HE.out.trans (if_neg (by rw [hb]; simp)))
    have HOK2 := Lib.hid (a.rename_okf HOF.out x.data.toList y.data.toList)
    have hm : (a.powered.change (.ren x.data.toList y.data.toList)).ops = a.powered.ops := rfl
    obtain ⟨m, hm2⟩ : ∃ m, a.powered.ops = m := ⟨_, rfl⟩
    rw [hm2] at hm hops
    have HM := Lib.hid hm
    rw [hb]
    clear hb hnm hth hi hok hL h2 HE hm hm2
    unfold ptr at HC
    change Hid (Calls _ _ #[_, .agg #[.string x, .string y, .int .i64 0]] _ _) at HC
    go_wp2_with fail
    refine HC.out.mono ?_
    rintro e w3 ⟨rfl, L', h3⟩
    obtain ⟨c4, f4⟩ := rfl_cell h3 4 (by omega)
    replace c4 : w3.cell? ⟨rb, 4, none⟩ = some (.int .i64 m) := by rw [c4]; show some (Value.int .i64 ((a.powered.change (.ren x.data.toList y.data.toList)).ops : Nat)) = _; rw [HM.out]
    have hd := rfl_did h3
    rw [HM.out] at hd
    have HD := Lib.hid hd
    clear h3 hd HC
    go_wp2_with fail
    go_ret
    rw [HRES.out] at HOK2 ⊢
    exact ⟨rfl, rf_shut HOK2.out _ HD.out⟩
  · have d1 : (a.powered.bad true [x.data.toList, y.data.toList] = 0) ↔ False := by simpa using hb
    have d2 : (a.powered.bad true [x.data.toList, y.data.toList] == 0) = false := by simpa using hb
    have d3 : (a.powered.bad true [x.data.toList, y.data.toList] != 0) = true := by simpa using hb
    have HRES := Lib.hid (HE.out.trans (if_pos hb))
    have H2 := Lib.hid h2
    clear hb h2 HE
    generalize hq : a.powered.bad true [x.data.toList, y.data.toList] = q at *
    have HQ := Lib.hid hq
    clear hq
    go_wp2_with fail
    go_ret
    rw [HRES.out]
    exact ⟨rfl, H2.out⟩

set_option maxHeartbeats 2000000 in
theorem rdelete_walk (h : Has o w0 w (Rf rb a)) (x : ByteArray) (hx : x.size ≤ maxLen) :
    Calls Try.prog 44 #[ptr rb, .string x] w fun e w' => e = .returned (.int .i64 (a.delete x.data.toList).1) ∧ Has o w0 w' (Rf rb (a.delete x.data.toList).2) := by
  have HR := ready_walk h x x hx hx
  rw [bad_one] at HR
  have HR := Lib.hid HR
  have HOK := Lib.hid (rf_open h).1
  have HOF := Lib.hid (rf_okf h)
  have HE : Hid (a.delete x.data.toList = if a.powered.bad true [x.data.toList] ≠ 0 then (a.powered.bad true [x.data.toList], a.powered) else (0, (a.powered.change (.del x.data.toList)).did)) := Lib.hid rfl
  clear h hx
  unfold ptr at *
  go_enter Try.func44, Try.ntmps44
  go_wp2_with fail
  refine HR.out.mono ?_
  rintro e w2 ⟨rfl, h2⟩
  clear HR
  by_cases hb : a.powered.bad true [x.data.toList] = 0
  · obtain ⟨_, hnm, hth, hops⟩ := bad_off hb
    simp only [List.all_cons, List.all_nil, Bool.and_true] at hnm
    have hok := HOK.out.powered
    obtain ⟨_, L, hL⟩ := rf_open h2
    have HC := Lib.hid (rchange_walk hL (ok_bounds hok).1 (ok_bounds hok).2 (.del x.data.toList) (l' := alDel a.powered.now x.data.toList) rfl hnm)
    have HRES := Lib.hid (HE.out.trans (if_neg (by rw [hb]; simp)))
    have HOK2 := Lib.hid (a.delete_okf HOF.out x.data.toList)
    have hm : (a.powered.change (.del x.data.toList)).ops = a.powered.ops := rfl
    obtain ⟨m, hm2⟩ : ∃ m, a.powered.ops = m := ⟨_, rfl⟩
    rw [hm2] at hm hops
    have HM := Lib.hid hm
    rw [hb]
    clear hb hnm hth hok hL h2 HE hm hm2
    unfold ptr at HC
    change Hid (Calls _ _ #[_, .agg #[.string x, .string ⟨#[]⟩, .int .i64 0]] _ _) at HC
    go_wp2_with fail
    refine HC.out.mono ?_
    rintro e w3 ⟨rfl, L', h3⟩
    obtain ⟨c4, f4⟩ := rfl_cell h3 4 (by omega)
    replace c4 : w3.cell? ⟨rb, 4, none⟩ = some (.int .i64 m) := by rw [c4]; show some (Value.int .i64 ((a.powered.change (.del x.data.toList)).ops : Nat)) = _; rw [HM.out]
    have hd := rfl_did h3
    rw [HM.out] at hd
    have HD := Lib.hid hd
    clear h3 hd HC
    go_wp2_with fail
    go_ret
    rw [HRES.out] at HOK2 ⊢
    exact ⟨rfl, rf_shut HOK2.out _ HD.out⟩
  · have d1 : (a.powered.bad true [x.data.toList] = 0) ↔ False := by simpa using hb
    have d2 : (a.powered.bad true [x.data.toList] == 0) = false := by simpa using hb
    have d3 : (a.powered.bad true [x.data.toList] != 0) = true := by simpa using hb
    have HRES := Lib.hid (HE.out.trans (if_pos hb))
    have H2 := Lib.hid h2
    clear hb h2 HE
    generalize hq : a.powered.bad true [x.data.toList] = q at *
    have HQ := Lib.hid hq
    clear hq
    go_wp2_with fail
    go_ret
    rw [HRES.out]
    exact ⟨rfl, H2.out⟩

/-- The directory is synced. -/
theorem rfl_synced (h : Has o w0 w (RfL rb a L)) : Has o w0 ((w.setCell ⟨rb, 1, none⟩ L.nv).setCell ⟨rb, 2, none⟩ (.slice none 0 0)) (RfL rb { a with old := a.now, log := [] } { L with ov := L.nv, lv := .slice none 0 0 }) := by
  obtain ⟨o1, h1, b1⟩ := h.rfTwo
  have h2 := b1 w L.nv a.now L.nv a.now h1.twoSame
  have h3 := (h2.rfCell (i := 1) (by omega)).2.2 L.nv
  obtain ⟨o4, h4, b4⟩ := h3.rfLog
  have h5 := b4 (w.setCell ⟨rb, 1, none⟩ L.nv) (.slice none 0 0) [] ⟨[], ⟨World.ownsRow_nil _ _ _ _, by simp [rowsOf, Value.ownBlock]⟩, by simp, Kept.refl _ _⟩
  have h6 := (h5.rfCell (i := 2) (by omega)).2.2 (.slice none 0 0)
  have e : upd (upd (rfCells L.fv L.ov L.lv L.nv a) 1 L.nv) 2 (.slice none 0 0) = rfCells L.fv L.nv (.slice none 0 0) L.nv { a with old := a.now, log := [] } := by
    funext i
    unfold upd
    match i with
    | 0 | 3 | 4 | 5 | 6 => rfl
    | 1 => rfl
    | 2 => rfl
    | i + 7 => rfl
  rw [e] at h6
  exact h6

set_option maxHeartbeats 2000000 in
theorem rsyncDir_walk (h : Has o w0 w (Rf rb a)) :
    Calls Try.prog 45 #[ptr rb] w fun e w' => e = .returned (.int .i64 a.syncDir.1) ∧ Has o w0 w' (Rf rb a.syncDir.2) := by
  have HM := Lib.hid (may_walk h)
  have HOK := Lib.hid (rf_open h).1
  have HOF := Lib.hid (rf_okf h)
  have HB : Hid (a.powered.bad false [] = if a.powered.off then 24 else if 65536 ≤ a.powered.ops then 23 else 0) := Lib.hid (by unfold ADk.bad; simp)
  have HE : Hid (a.syncDir = if a.powered.bad false [] ≠ 0 then (a.powered.bad false [], a.powered) else (0, { a.powered with old := a.powered.now, log := [] }.did)) := Lib.hid rfl
  have HOK2 := Lib.hid (a.syncDir_okf HOF.out)
  clear h
  unfold ptr at *
  go_enter Try.func45, Try.ntmps45
  go_wp2_with fail
  refine HM.out.mono ?_
  rintro e w2 ⟨rfl, h2⟩
  have H2 := Lib.hid h2
  clear HM
  cases hoff : a.powered.off with
  | true =>
    have hz : a.powered.bad false [] = 24 := by rw [HB.out, hoff]; rfl
    have HRES : Hid (a.syncDir = (24, a.powered)) := Lib.hid (by rw [HE.out, hz]; rfl)
    clear hoff h2 HE HB hz
    go_wp2_with fail
    go_ret
    rw [HRES.out]
    exact ⟨rfl, H2.out⟩
  | false =>
    obtain ⟨_, L, hL⟩ := rf_open h2
    have c4 : w2.cell? ⟨rb, 4, none⟩ = some (.int .i64 a.powered.ops) := (rfl_cell hL 4 (by omega)).1
    by_cases ho : 65536 ≤ a.powered.ops
    · have hz : a.powered.bad false [] = 23 := by rw [HB.out, hoff, if_pos ho]; rfl
      have HRES : Hid (a.syncDir = (23, a.powered)) := Lib.hid (by rw [HE.out, hz]; rfl)
      have d1 : ((65536 : Int) ≤ (a.powered.ops : Int)) ↔ True := by simp; omega
      clear hoff h2 HE HB hL ho hz
      go_wp2_with fail
      go_ret
      rw [HRES.out]
      exact ⟨rfl, H2.out⟩
    · have hz : a.powered.bad false [] = 0 := by rw [HB.out, hoff, if_neg ho]; rfl
      have HRES : Hid (a.syncDir = (0, { a.powered with old := a.powered.now, log := [] }.did)) := Lib.hid (by rw [HE.out, hz]; rfl)
      have d1 : ((65536 : Int) ≤ (a.powered.ops : Int)) ↔ False := by simp; omega
      have hops : a.powered.ops < 65536 := by omega
      have c3 : w2.cell? ⟨rb, 3, none⟩ = some L.nv := (rfl_cell hL 3 (by omega)).1
      obtain ⟨c1, f1⟩ : w2.cell? ⟨rb, 1, none⟩ = some L.ov ∧ _ := rfl_cell hL 1 (by omega)
      obtain ⟨c2, f2⟩ : w2.cell? ⟨rb, 2, none⟩ = some L.lv ∧ _ := rfl_cell hL 2 (by omega)
      have f4 := (rfl_cell hL 4 (by omega)).2
      obtain ⟨np, nc, hnv, _⟩ := (rfl_now hL).len
      have hD := rfl_did (rfl_synced hL)
      rw [hnv] at c3
      rw [hnv] at hD
      generalize a.powered.now.length = nl at *
      obtain ⟨m, hm⟩ : ∃ m, a.powered.ops = m := ⟨_, rfl⟩
      have HD := Lib.hid (show ∃ L2, Has o w0 (((w2.setCell ⟨rb, 1, none⟩ (.slice np nl nc)).setCell ⟨rb, 2, none⟩ (.slice none 0 0)).setCell ⟨rb, 4, none⟩ (.int .i64 ((m : Int) + 1))) (RfL rb (ADk.did { a.powered with old := a.powered.now, log := [] }) L2) from ⟨_, by rw [← hm]; exact hD⟩)
      rw [hm] at c4 d1 hops
      clear hoff h2 HE HB hL ho hnv hD hm hz
      go_wp2_with fail
      go_ret
      rw [HRES.out] at HOK2 ⊢
      obtain ⟨L2, hD2⟩ := HD.out
      exact ⟨rfl, rf_shut HOK2.out L2 hD2⟩
end Go.Proofs.Ytbankfdgoolbdaa
namespace Go.Proofs.Ytbankfdgoolbdaa
open Go Go.RowKit Go.Lib
set_option linter.unusedVariables false
variable {o : List Nat} {w0 w w' w1 : World} {rb : Nat} {a : ADk} {L : RLay} {l' : Dir}

theorem fileR_sync {ad : Nat} {v : Value} {x : AFile} (h : Has o w0 w (fileRP ad v x)) (n : Nat) : Has o w0 (w.setCell ⟨ad, 1, none⟩ (.int .i64 n)) (fileRP ad v ⟨x.b, n⟩) := by
  obtain ⟨o1, h1, _, _, b1⟩ := h.left
  have := b1 _ _ ((h1.blkAt (i := 1) (by omega)).2.2 (.int .i64 n))
  have e : upd (fileCells v x.sy) 1 (.int .i64 n) = fileCells v n := by
    funext i
    unfold upd
    match i with
    | 0 => rfl
    | 1 => rfl
    | i + 2 => rfl
  rw [e] at this
  exact this

theorem fileR_put {ad : Nat} {x : AFile} {g cap : Nat} (h : Has o w0 w (fileRP ad (.slice (some ⟨g, 0, none⟩) x.b.length cap) x)) (k : Nat) (hk : k < x.b.length) (c : UInt8) :
    Has o w0 (w.setCell ⟨g, k, none⟩ (byteV c)) (fileRP ad (.slice (some ⟨g, 0, none⟩) x.b.length cap) ⟨x.b.set k c, x.sy⟩) := by
  obtain ⟨o1, h1, _, _, b1⟩ := h.right
  have := b1 _ _ (h1.setRow k (byteV c) hk)
  have e : (bytesV x.b).set k (byteV c) = bytesV (x.b.set k c) := by unfold bytesV; rw [List.map_set]
  rw [e] at this
  unfold fileRP
  rw [show (x.b.set k c).length = x.b.length by simp]
  exact this

set_option maxHeartbeats 4000000 in
set_option maxRecDepth 100000 in
theorem rsync_walk (h : Has o w0 w (Rf rb a)) (x : ByteArray) (hx : x.size ≤ maxLen) :
    Calls Try.prog 42 #[ptr rb, .string x] w fun e w' => e = .returned (.int .i64 (a.sync x.data.toList).1) ∧ Has o w0 w' (Rf rb (a.sync x.data.toList).2) := by
  have HR := ready_walk h x x hx hx
  rw [bad_one] at HR
  have HR := Lib.hid HR
  have HOK := Lib.hid (rf_open h).1
  have HOF := Lib.hid (rf_okf h)
  have HE : Hid (a.sync x.data.toList = if a.powered.bad true [x.data.toList] ≠ 0 then (a.powered.bad true [x.data.toList], a.powered) else match alFind a.powered.now x.data.toList with | none => (0, a.powered) | some i => (0, { a.powered with fs := a.powered.fs.set i ⟨(a.powered.file i).b, (a.powered.file i).b.length⟩ }.did)) := Lib.hid rfl
  have HOK2 := Lib.hid (a.sync_okf HOF.out x.data.toList)
  clear h hx
  unfold ptr at *
  go_enter Try.func42, Try.ntmps42
  go_wp2_with fail
  refine HR.out.mono ?_
  rintro e w2 ⟨rfl, h2⟩
  clear HR
  by_cases hb : a.powered.bad true [x.data.toList] = 0
  · obtain ⟨_, hnm, hth, hops⟩ := bad_off hb
    obtain ⟨fi, hi⟩ := Option.isSome_iff_exists.1 (hth rfl)
    simp only [List.headD_cons] at hi
    have hok := HOK.out.powered
    obtain ⟨_, L, hL⟩ := rf_open h2
    have hil : fi < a.powered.fs.length := hok.now.ids _ (alFind_mem hi)
    have hlen := (a.powered.file_ok hok fi).1
    have HRES : Hid (a.sync x.data.toList = (0, { a.powered with fs := a.powered.fs.set fi ⟨(a.powered.file fi).b, (a.powered.file fi).b.length⟩ }.did)) := Lib.hid (by rw [HE.out, if_neg (by rw [hb]; simp), hi])
    have hLd := hL.drewN 1
    change Has o w0 w2.drew _ at hLd
    obtain ⟨g, c, hfv, hgc, _, cp⟩ := rfl_ptr hLd hil
    have c0 : w2.drew.cell? ⟨rb, 0, none⟩ = some L.fv := (rfl_cell hLd 0 (by omega)).1
    have c3 : w2.drew.cell? ⟨rb, 3, none⟩ = some L.nv := (rfl_cell hLd 3 (by omega)).1
    obtain ⟨c4, f4⟩ : w2.drew.cell? ⟨rb, 4, none⟩ = some (.int .i64 a.powered.ops) ∧ w2.drew.frozen? ⟨rb, 4, none⟩ = false := rfl_cell hLd 4 (by omega)
    have HF := find_walk (rfl_now hLd) x
    rw [show foundV a.powered.now x.data.toList = (fi : Nat) by unfold foundV; rw [hi]] at HF
    obtain ⟨np, nc, hnv, _⟩ := (rfl_now hLd).len
    rw [hnv] at c3 HF
    rw [hfv] at c0
    have HF := Lib.hid HF
    obtain ⟨o9, hF9, back9⟩ := rfl_file hLd hil
    obtain ⟨e0, e1, ff, _, ⟨bp, bc, hbv⟩, _⟩ := fileR_at hF9
    rw [hbv] at e0
    have f1 := ff 1 (by omega)
    have hD := back9 _ _ _ (fileR_sync hF9 (a.powered.file fi).b.length)
    have c4b : (w2.drew.setCell ⟨L.addr fi, 1, none⟩ (.int .i64 (a.powered.file fi).b.length)).cell? ⟨rb, 4, none⟩ = some (.int .i64 a.powered.ops) := (rfl_cell hD 4 (by omega)).1
    have f4b := (rfl_cell hD 4 (by omega)).2
    have HD := Lib.hid (rfl_did hD)
    unfold ptr at cp
    have hd : decide (fi < a.powered.fs.length) = true := decide_eq_true hil
    have hdc : fi < c := by omega
    rw [hb]
    generalize a.powered.now.length = nl at *
    generalize hfl : a.powered.fs.length = fl at *
    generalize hbl : (a.powered.file fi).b.length = bl at *
    have HBL := Lib.hid hbl
    obtain ⟨m, hm⟩ : ∃ m, a.powered.ops = m := ⟨_, rfl⟩
    have HD : Hid (∃ L2, Has o w0 ((w2.drew.setCell ⟨L.addr fi, 1, none⟩ (.int .i64 bl)).setCell ⟨rb, 4, none⟩ (.int .i64 ((m : Int) + 1))) (RfL rb (ADk.did { a.powered with fs := a.powered.fs.set fi ⟨(a.powered.file fi).b, bl⟩ }) L2)) := Lib.hid ⟨_, by rw [← hm]; exact HD.out⟩
    rw [hm] at hops c4 c4b
    clear hb hnm hth hi hok hL h2 HE hm hLd hfv hnv hF9 back9 hbv hD hfl hbl ff
    go_wp2_with fail
    go_region_held3 (fun w' => w'.cell? ⟨rb, 0, none⟩ = some (.slice (some ⟨g, 0, none⟩) fl c) ∧ w'.cell? ⟨rb, 3, none⟩ = some (.slice np nl nc) ∧ w'.cell? ⟨g, fi, none⟩ = some (.pointer (some ⟨L.addr fi, 0, none⟩)))
      (first | exact ⟨c0, c3, cp⟩ | go_keep)
      (first | (go_at_call 58
                refine HF.out.mono ?_
                rintro e w8 ⟨rfl, rfl⟩))
    generalize w2.drew = W at *
    go_wp2_with fail
    go_ret
    rw [HRES.out] at HOK2 ⊢
    obtain ⟨L2, hD2⟩ := HD.out
    exact ⟨rfl, rf_shut HOK2.out L2 hD2⟩
  · have d1 : (a.powered.bad true [x.data.toList] = 0) ↔ False := by simpa using hb
    have d2 : (a.powered.bad true [x.data.toList] == 0) = false := by simpa using hb
    have d3 : (a.powered.bad true [x.data.toList] != 0) = true := by simpa using hb
    have HRES := Lib.hid (HE.out.trans (if_pos hb))
    have H2 := Lib.hid h2
    clear hb h2 HE
    generalize hq : a.powered.bad true [x.data.toList] = q at *
    have HQ := Lib.hid hq
    clear hq
    go_wp2_with fail
    go_ret
    rw [HRES.out]
    exact ⟨rfl, H2.out⟩

set_option maxHeartbeats 4000000 in
set_option maxRecDepth 100000 in
theorem rpoke_walk (h : Has o w0 w (Rf rb a)) (x : ByteArray) (hx : x.size ≤ maxLen) (k : Int) (hk : Rng k) (c : UInt8) :
    Calls Try.prog 48 #[ptr rb, .string x, .int .i64 k, byteV c] w fun e w' => e = .returned (.int .i64 (a.poke x.data.toList k c).1) ∧ Has o w0 w' (Rf rb (a.poke x.data.toList k c).2) := by
  obtain ⟨ha, L, hL⟩ := rf_open h
  have HX := Lib.hid (refName_walk x w hx)
  have HH := Lib.hid h
  have HOK := Lib.hid (a.poke_okf (rf_okf h) x.data.toList k c)
  unfold ptr byteV
  cases hnm : isNm x.data.toList with
  | false =>
    rw [show a.poke x.data.toList k c = (20, a) by unfold ADk.poke; rw [hnm]; rfl]
    rw [hnm] at HX
    clear hL h ha hnm hk
    go_enter Try.func48, Try.ntmps48
    go_wp2_with fail
    refine HX.out.mono ?_
    rintro e w2 ⟨rfl, k2⟩
    have H2 := Lib.hid (HH.out.quiet k2)
    clear k2
    go_wp2_with fail
    go_ret
    exact ⟨rfl, H2.out⟩
  | true =>
    have HP : Hid (a.poke x.data.toList k c = match alFind a.now x.data.toList with | none => (21, a) | some i => if k < 0 ∨ ((a.file i).b.length : Int) ≤ k then (2, a) else (0, { a with fs := a.fs.set i ⟨(a.file i).b.set k.toNat c, (a.file i).sy⟩ })) := Lib.hid (by unfold ADk.poke; rw [hnm]; rfl)
    rw [hnm] at HX
    have HL := Lib.hid hL
    clear hL h hnm
    go_enter Try.func48, Try.ntmps48
    go_wp2_with fail
    refine HX.out.mono ?_
    rintro e w2 ⟨rfl, k2⟩
    have hL2 := HL.out.quiet k2
    have H2 := Lib.hid (HH.out.quiet k2)
    have c3 : w2.cell? ⟨rb, 3, none⟩ = some L.nv := (rfl_cell hL2 3 (by omega)).1
    have c0 : w2.cell? ⟨rb, 0, none⟩ = some L.fv := (rfl_cell hL2 0 (by omega)).1
    have HF := Lib.hid (find_walk (rfl_now hL2) x)
    obtain ⟨np, nc, hnv, _⟩ := (rfl_now hL2).len
    rw [hnv] at HF c3
    cases hf : alFind a.now x.data.toList with
    | none =>
      have HE : Hid (a.poke x.data.toList k c = (21, a)) := Lib.hid (by rw [HP.out, hf])
      rw [show foundV a.now x.data.toList = -1 by unfold foundV; rw [hf]] at HF
      generalize a.now.length = nl at *
      clear hL2 k2 hnv hf c0 HX ha hk
      go_wp2_with fail
      refine HF.out.mono ?_
      rintro e w5 ⟨rfl, rfl⟩
      go_wp2_with fail
      go_ret
      rw [HE.out]
      exact ⟨rfl, H2.out⟩
    | some i =>
      have HE : Hid (a.poke x.data.toList k c = if k < 0 ∨ ((a.file i).b.length : Int) ≤ k then (2, a) else (0, { a with fs := a.fs.set i ⟨(a.file i).b.set k.toNat c, (a.file i).sy⟩ })) := Lib.hid (by rw [HP.out, hf])
      rw [show foundV a.now x.data.toList = (i : Nat) by unfold foundV; rw [hf]] at HF
      have hil : i < a.fs.length := ha.now.ids _ (alFind_mem hf)
      obtain ⟨g, cc, hfv, hgc, _, cp⟩ := rfl_ptr hL2 hil
      rw [hfv] at c0
      obtain ⟨o9, hF9, back9⟩ := rfl_file hL2 hil
      obtain ⟨e0, _, _, _, ⟨bp, bc, hbv⟩, hrow⟩ := fileR_at hF9
      rw [hbv] at e0
      unfold ptr at cp
      have hd : decide (i < a.fs.length) = true := decide_eq_true hil
      have hdc : i < cc := by omega
      have d0 : ((i : Int) < 0) ↔ False := by simp
      by_cases hk0 : k < 0
      · have HE2 := Lib.hid (HE.out.trans (if_pos (.inl hk0)))
        have d1 : (k < 0) ↔ True := by simp; omega
        generalize a.now.length = nl at *
        generalize a.fs.length = fl at *
        clear hL2 k2 hnv hf hF9 hbv hfv HX HL back9 hrow hk0 ha hk
        go_wp2_with fail
        refine HF.out.mono ?_
        rintro e w5 ⟨rfl, rfl⟩
        go_wp2_with fail
        go_ret
        rw [HE2.out]
        exact ⟨rfl, H2.out⟩
      · have d1 : (k < 0) ↔ False := by simp; omega
        by_cases hk1 : ((a.file i).b.length : Int) ≤ k
        · have HE2 := Lib.hid (HE.out.trans (if_pos (.inr hk1)))
          have d2 : (((a.file i).b.length : Int) ≤ k) ↔ True := by simp; omega
          generalize a.now.length = nl at *
          generalize a.fs.length = fl at *
          clear hL2 k2 hnv hf hF9 hbv hfv HX HL back9 hrow hk0 hk1 ha hk
          go_wp2_with fail
          refine HF.out.mono ?_
          rintro e w5 ⟨rfl, rfl⟩
          go_wp2_with fail
          go_ret
          rw [HE2.out]
          exact ⟨rfl, H2.out⟩
        · have HE2 := Lib.hid (HE.out.trans (if_neg (fun h => h.elim hk0 hk1)))
          have d2 : (((a.file i).b.length : Int) ≤ k) ↔ False := by simp; omega
          obtain ⟨j, rfl⟩ : ∃ j : Nat, k = j := ⟨k.toNat, by omega⟩
          have hj : j < (a.file i).b.length := by omega
          obtain ⟨gb, gc, hv, hcap, _, _, hfz, hcl⟩ := row_out hrow (by omega)
          rw [hv] at hbv hF9
          have hcn : w2.cell? ⟨gb, j, none⟩ = some (byteV ((a.file i).b[j]'hj)) := hcl j _ (by simp [bytesV, hj])
          have hfn := hfz j
          have hD := back9 _ _ _ (fileR_put hF9 j hj c)
          obtain ⟨rfl, rfl⟩ : bp = some ⟨gb, 0, none⟩ ∧ bc = gc := by injection hbv with e1 _ e2; exact ⟨e1.symm, e2.symm⟩
          have HD := Lib.hid hD
          have d3 : decide (j < (a.file i).b.length) = true := decide_eq_true hj
          have d4 : j < bc := by omega
          unfold byteV at hcn
          generalize a.now.length = nl at *
          generalize a.fs.length = fl at *
          clear hL2 k2 hnv hf hF9 hbv hfv HX HL back9 hrow hk0 hk1 hv hfz hcl hD ha hk
          go_wp2_with fail
          refine HF.out.mono ?_
          rintro e w5 ⟨rfl, rfl⟩
          go_wp2_with fail
          go_ret
          rw [HE2.out] at HOK ⊢
          exact ⟨rfl, rf_shut HOK.out _ HD.out⟩
end Go.Proofs.Ytbankfdgoolbdaa
