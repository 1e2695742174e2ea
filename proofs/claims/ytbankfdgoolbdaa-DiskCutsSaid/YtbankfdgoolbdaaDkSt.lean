/- A disk in memory: its struct, its two maps, its log of functions, its files, the variables that the functions hold. Nothing is claimed of a program here. -/
import Derived.Test.YtbankfdgoolbdaaDkOk
namespace Go.Proofs.Ytbankfdgoolbdaa
open Go Go.RowKit Go.Maps
set_option linter.unusedVariables false

def ptr (n : Nat) : Value := .pointer (some ⟨n, 0, none⟩)
def nmV (s : Nm) : Value := .string ⟨s.toArray⟩
def byteV (c : UInt8) : Value := .int .u8 c.toNat
def bytesV (l : List UInt8) : List Value := l.map byteV

theorem bytesV_append (a b : List UInt8) : bytesV (a ++ b) = bytesV a ++ bytesV b := by simp [bytesV]
theorem bytesV_length (a : List UInt8) : (bytesV a).length = a.length := by simp [bytesV]
theorem nmV_of (s : ByteArray) : nmV s.data.toList = .string s := by
  obtain ⟨⟨l⟩⟩ := s
  rfl

section
variable {o : List Nat} {w0 w w' : World} {db mb ob n k : Nat} {f : Nat → Value} {nv ov : List (Nm × Value)} {lv : Value} {ls : List Value} {fp bp : Nat → Part}

/-- The six parts. -/
def DkC (db : Nat) (f : Nat → Value) (mb : Nat) (nv : List (Nm × Value)) (ob : Nat) (ov : List (Nm × Value)) (lv : Value) (ls : List Value) (n : Nat) (fp : Nat → Part) (k : Nat) (bp : Nat → Part) : Part :=
  (Part.blk db 6 63 f).sep ((Part.map mb nv).sep ((Part.map ob ov).sep ((Part.row 68 1 lv ls.length ls).sep ((Part.all n fp).sep (Part.all k bp)))))

theorem Has.dkCell (h : Has o w0 w (DkC db f mb nv ob ov lv ls n fp k bp)) {i : Nat} (hi : i < 6) :
    w.cell? ⟨db, i, none⟩ = some (f i) ∧ w.frozen? ⟨db, i, none⟩ = false ∧ ∀ u, Has o w0 (w.setCell ⟨db, i, none⟩ u) (DkC db (upd f i u) mb nv ob ov lv ls n fp k bp) := by
  obtain ⟨o', h1, _, _, back⟩ := h.left
  obtain ⟨a, b, c⟩ := h1.blkAt hi
  exact ⟨a, b, fun u => back _ _ (c u)⟩

theorem Has.dkNow (h : Has o w0 w (DkC db f mb nv ob ov lv ls n fp k bp)) :
    ∃ o', Has o' w w (.map mb nv) ∧ (∀ x ∈ o', x ∈ o ∨ w0.heap.size ≤ x) ∧ ∀ w' mb' nv', Has o' w w' (.map mb' nv') → Has o w0 w' (DkC db f mb' nv' ob ov lv ls n fp k bp) := by
  obtain ⟨o1, h1, s1, _, b1⟩ := h.right
  obtain ⟨o2, h2, s2, _, b2⟩ := h1.left
  refine ⟨o2, h2, fun x hx => ?_, fun w' mb' nv' h' => b1 _ _ (b2 _ _ h')⟩
  rcases s2 x hx with h3 | h3
  · exact s1 x h3
  · right; have := h.keeps.size; omega

theorem Has.dkOld (h : Has o w0 w (DkC db f mb nv ob ov lv ls n fp k bp)) :
    ∃ o', Has o' w w (.map ob ov) ∧ ∀ w' ob' ov', Has o' w w' (.map ob' ov') → Has o w0 w' (DkC db f mb nv ob' ov' lv ls n fp k bp) := by
  obtain ⟨o1, h1, s1, _, b1⟩ := h.right
  obtain ⟨o2, h2, s2, _, b2⟩ := h1.right
  obtain ⟨o3, h3, s3, _, b3⟩ := h2.left
  exact ⟨o3, h3, fun w' ob' ov' h' => b1 _ _ (b2 _ _ (b3 _ _ h'))⟩

theorem Has.dkLog (h : Has o w0 w (DkC db f mb nv ob ov lv ls n fp k bp)) :
    ∃ o', Has o' w w (.row 68 1 lv ls.length ls) ∧ ∀ w' lv' ls', Has o' w w' (.row 68 1 lv' ls'.length ls') → Has o w0 w' (DkC db f mb nv ob ov lv' ls' n fp k bp) := by
  obtain ⟨o1, h1, s1, _, b1⟩ := h.right
  obtain ⟨o2, h2, s2, _, b2⟩ := h1.right
  obtain ⟨o3, h3, s3, _, b3⟩ := h2.right
  obtain ⟨o4, h4, s4, _, b4⟩ := h3.left
  exact ⟨o4, h4, fun w' lv' ls' h' => b1 _ _ (b2 _ _ (b3 _ _ (b4 _ _ h')))⟩

theorem Has.dkFiles (h : Has o w0 w (DkC db f mb nv ob ov lv ls n fp k bp)) :
    ∃ o', Has o' w w (.all n fp) ∧ ∀ w' n' fp', Has o' w w' (.all n' fp') → Has o w0 w' (DkC db f mb nv ob ov lv ls n' fp' k bp) := by
  obtain ⟨o1, h1, s1, _, b1⟩ := h.right
  obtain ⟨o2, h2, s2, _, b2⟩ := h1.right
  obtain ⟨o3, h3, s3, _, b3⟩ := h2.right
  obtain ⟨o4, h4, s4, _, b4⟩ := h3.right
  obtain ⟨o5, h5, s5, _, b5⟩ := h4.left
  exact ⟨o5, h5, fun w' n' fp' h' => b1 _ _ (b2 _ _ (b3 _ _ (b4 _ _ (b5 _ _ h'))))⟩

theorem Has.dkBoxes (h : Has o w0 w (DkC db f mb nv ob ov lv ls n fp k bp)) :
    ∃ o', Has o' w w (.all k bp) ∧ ∀ w' k' bp', Has o' w w' (.all k' bp') → Has o w0 w' (DkC db f mb nv ob ov lv ls n fp k' bp') := by
  obtain ⟨o1, h1, s1, _, b1⟩ := h.right
  obtain ⟨o2, h2, s2, _, b2⟩ := h1.right
  obtain ⟨o3, h3, s3, _, b3⟩ := h2.right
  obtain ⟨o4, h4, s4, _, b4⟩ := h3.right
  obtain ⟨o5, h5, s5, _, b5⟩ := h4.right
  exact ⟨o5, h5, fun w' k' bp' h' => b1 _ _ (b2 _ _ (b3 _ _ (b4 _ _ (b5 _ _ h'))))⟩

theorem Has.dkFile (h : Has o w0 w (DkC db f mb nv ob ov lv ls n fp k bp)) {i : Nat} (hi : i < n) :
    ∃ o', Has o' w w (fp i) ∧ ∀ w' A', Has o' w w' A' → Has o w0 w' (DkC db f mb nv ob ov lv ls n (updP fp i A') k bp) := by
  obtain ⟨o1, h1, b1⟩ := h.dkFiles
  obtain ⟨o2, h2, s2, _, b2⟩ := h1.pick hi
  exact ⟨o2, h2, fun w' A' h' => b1 _ _ _ (b2 _ _ h')⟩

theorem Has.dkBox (h : Has o w0 w (DkC db f mb nv ob ov lv ls n fp k bp)) {i : Nat} (hi : i < k) : ∃ o', Has o' w w (bp i) := by
  obtain ⟨o1, h1, b1⟩ := h.dkBoxes
  obtain ⟨o2, h2, _⟩ := h1.pick hi
  exact ⟨o2, h2⟩
end

/-! ### what the parts hold -/
structure DLay where
  mb : Nat
  ob : Nat
  lv : Value
  addr : Nat → Nat
  bv : Nat → Value
  b1 : Nat → Nat
  b2 : Nat → Nat

def dirV (ad : Nat → Nat) (l : Dir) : List (Nm × Value) := alMap (fun i => ptr (ad i)) l

def dkCells (L : DLay) (a : ADk) : Nat → Value
  | 0 => .map (some L.mb)
  | 1 => .map (some L.ob)
  | 2 => L.lv
  | 3 => .int .i64 a.ops
  | 4 => .int .i64 a.cut
  | 5 => .bool a.off
  | _ => .pointer none

def cloV (b1 b2 : Nat) : Chg → Value
  | .mk s i => .func (.func 35) #[] #[ptr b1, ptr b2]
  | .del s => .func (.func 34) #[] #[ptr b1]
  | .ren s t => .func (.func 52) #[] #[ptr b1, ptr b2]

def boxP (ad : Nat → Nat) (b1 b2 : Nat) : Chg → Part
  | .mk s i => (Part.blk b1 1 69 (fun _ => ptr (ad i))).sep (.blk b2 1 9 (fun _ => nmV s))
  | .del s => .blk b1 1 9 (fun _ => nmV s)
  | .ren s t => (Part.blk b1 1 9 (fun _ => nmV s)).sep (.blk b2 1 9 (fun _ => nmV t))

def fileCells (v : Value) (sy : Nat) : Nat → Value
  | 0 => v
  | 1 => .int .i64 sy
  | _ => .pointer none

def fileP (ad : Nat) (v : Value) (x : AFile) : Part :=
  (Part.blk ad 2 71 (fileCells v x.sy)).sep (.row 5 1 v x.b.length (bytesV x.b))

def logV (L : DLay) (l : List Chg) : List Value := l.mapIdx fun j c => cloV (L.b1 j) (L.b2 j) c

def DkL (db : Nat) (a : ADk) (L : DLay) : Part :=
  DkC db (dkCells L a) L.mb (dirV L.addr a.now) L.ob (dirV L.addr a.old) L.lv (logV L a.log) a.fs.length (fun i => fileP (L.addr i) (L.bv i) (a.file i)) a.log.length (fun j => boxP L.addr (L.b1 j) (L.b2 j) (a.log.getD j (.del [])))

/-- A disk at block db that is as a says. -/
def Dk (db : Nat) (a : ADk) : Part := .when a.Ok (.ex (DkL db a))

theorem dk_open {o : List Nat} {w0 w : World} {db : Nat} {a : ADk} (h : Has o w0 w (Dk db a)) : a.Ok ∧ ∃ L, Has o w0 w (DkL db a L) :=
  ⟨h.whenOut.1, h.whenOut.2.exOut⟩
theorem dk_shut {o : List Nat} {w0 w : World} {db : Nat} {a : ADk} (ha : a.Ok) (L : DLay) (h : Has o w0 w (DkL db a L)) : Has o w0 w (Dk db a) :=
  Has.whenIn ha (h.exIn L)

variable {o : List Nat} {w0 w : World} {db : Nat} {a : ADk} {L : DLay}

/-- The struct's cells. -/
theorem dkl_cell (h : Has o w0 w (DkL db a L)) (i : Nat) (hi : i < 6) : w.cell? ⟨db, i, none⟩ = some (dkCells L a i) ∧ w.frozen? ⟨db, i, none⟩ = false := ⟨(h.dkCell hi).1, (h.dkCell hi).2.1⟩

theorem dkl_ops (h : Has o w0 w (DkL db a L)) (n : Nat) : Has o w0 (w.setCell ⟨db, 3, none⟩ (.int .i64 n)) (DkL db { a with ops := n } L) := by
  have := (h.dkCell (i := 3) (by omega)).2.2 (.int .i64 n)
  have e : upd (dkCells L a) 3 (.int .i64 n) = dkCells L { a with ops := n } := by
    funext i
    unfold upd
    match i with
    | 0 | 1 | 2 | 4 | 5 => rfl
    | 3 => rfl
    | i + 6 => rfl
  rw [e] at this
  exact this
theorem dkl_cut (h : Has o w0 w (DkL db a L)) (n : Int) : Has o w0 (w.setCell ⟨db, 4, none⟩ (.int .i64 n)) (DkL db { a with cut := n } L) := by
  have := (h.dkCell (i := 4) (by omega)).2.2 (.int .i64 n)
  have e : upd (dkCells L a) 4 (.int .i64 n) = dkCells L { a with cut := n } := by
    funext i
    unfold upd
    match i with
    | 0 | 1 | 2 | 3 | 5 => rfl
    | 4 => rfl
    | i + 6 => rfl
  rw [e] at this
  exact this
theorem dkl_off (h : Has o w0 w (DkL db a L)) (b : Bool) : Has o w0 (w.setCell ⟨db, 5, none⟩ (.bool b)) (DkL db { a with off := b } L) := by
  have := (h.dkCell (i := 5) (by omega)).2.2 (.bool b)
  have e : upd (dkCells L a) 5 (.bool b) = dkCells L { a with off := b } := by
    funext i
    unfold upd
    match i with
    | 0 | 1 | 2 | 3 | 4 => rfl
    | 5 => rfl
    | i + 6 => rfl
  rw [e] at this
  exact this

theorem dkl_now (h : Has o w0 w (DkL db a L)) : MapAt w L.mb (dirV L.addr a.now) := by
  obtain ⟨o', h', _⟩ := h.dkNow
  exact h'.mapAt

theorem dkl_file (h : Has o w0 w (DkL db a L)) {i : Nat} (hi : i < a.fs.length) : ∃ o', Has o' w w (fileP (L.addr i) (L.bv i) (a.file i)) ∧
    ∀ w' v x, Has o' w w' (fileP (L.addr i) v x) → Has o w0 w' (DkL db { a with fs := a.fs.set i x } { L with bv := fun j => if j = i then v else L.bv j }) := by
  obtain ⟨o', h', back⟩ := h.dkFile hi
  refine ⟨o', h', fun w' v x hx => ?_⟩
  have := back w' _ hx
  have e : updP (fun i => fileP (L.addr i) (L.bv i) (a.file i)) i (fileP (L.addr i) v x) = fun j => fileP (L.addr j) (if j = i then v else L.bv j) (if j = i then x else a.file j) := by
    funext j
    unfold updP
    by_cases e : j = i
    · subst e; simp
    · simp [if_neg e]
  rw [e] at this
  unfold DkL
  have e2 : ∀ j, j < a.fs.length → (if j = i then x else a.file j) = ({ a with fs := a.fs.set i x } : ADk).file j := by
    intro j hj
    unfold ADk.file
    rw [List.getD_eq_getElem?_getD, List.getD_eq_getElem?_getD, List.getElem?_set]
    by_cases e : i = j
    · subst e; simp [hj]
    · rw [if_neg e, if_neg (fun h => e h.symm)]
  obtain ⟨o2, h2, b2⟩ := this.dkFiles
  have h3 := b2 _ (a.fs.set i x).length (fun j => fileP (L.addr j) (if j = i then v else L.bv j) (({ a with fs := a.fs.set i x } : ADk).file j)) (by
    rw [List.length_set]
    exact h2.congr fun j hj => by rw [e2 j hj])
  exact h3

end Go.Proofs.Ytbankfdgoolbdaa
