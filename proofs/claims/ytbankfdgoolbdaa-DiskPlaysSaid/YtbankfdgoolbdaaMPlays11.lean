/- The law's does walked, kind by kind: the disk and the reference go on alike.
The law's does walked: cutting, poking, crashing.
The law's does walked: reading, appending.
The law's alike walked: both disks show the same. -/
import Derived.Test.YtbankfdgoolbdaaMPlays9
import Derived.Test.YtbankfdgoolbdaaMPlays10
namespace Go.Proofs.Ytbankfdgoolbdaa
open Go Go.RowKit Go.Lib
set_option linter.unusedVariables false
variable {o : List Nat} {w0 w w' w1 : World} {db rb wb ob : Nat} {a b : ADk} {q : DOp} {v : Value}

/-- What an operation of any kind makes of a disk. -/
def ADk.act9 (a : ADk) (p : Nat) (q : DOp) : ADk :=
  match p with
  | 0 => (a.append q.s.data.toList q.b).2
  | 1 => a
  | 2 => (a.sync q.s.data.toList).2
  | 3 => (a.rename q.s.data.toList q.t.data.toList).2
  | 4 => (a.delete q.s.data.toList).2
  | 5 => a.syncDir.2
  | 6 => a.cutAt q.n
  | 7 => (a.poke q.s.data.toList q.n (UInt8.ofNat q.b.length)).2
  | _ => a.crash q.keep q.dirs q.tear

def wF (db rb : Nat) : Nat → Value
  | 0 => ptr db
  | 1 => ptr rb
  | _ => ptr 0
def oF (q : DOp) (v : Value) : Nat → Value
  | 0 => .int .i64 q.kind
  | 1 => .string q.s
  | 2 => .string q.t
  | 3 => v
  | 4 => .int .i64 q.n
  | 5 => .int .i64 q.keep
  | 6 => .int .i64 q.dirs
  | _ => .int .i64 q.tear
def opV (q : DOp) (v : Value) : Value := .agg #[.int .i64 q.kind, .string q.s, .string q.t, v, .int .i64 q.n, .int .i64 q.keep, .int .i64 q.dirs, .int .i64 q.tear]

/-- The law's world, the disk, the reference. -/
def WP (wb db rb : Nat) : Part := .blk wb 2 54 (wF db rb)
def OP (ob : Nat) (q : DOp) (v : Value) : Part := .blk ob 8 38 (oF q v)
def St (wb db rb : Nat) (a b : ADk) (X : Part) : Part := (Dk db a).sep ((Rf rb b).sep ((WP wb db rb).sep X))

theorem st_cells (h : Has o w0 w (St wb db rb a b (OP ob q v))) :
    w.cell? ⟨wb, 0, none⟩ = some (.pointer (some ⟨db, 0, none⟩)) ∧ w.cell? ⟨wb, 1, none⟩ = some (.pointer (some ⟨rb, 0, none⟩)) ∧ w.cell? ⟨ob, 0, none⟩ = some (.int .i64 q.kind) ∧ w.cell? ⟨ob, 1, none⟩ = some (.string q.s) ∧ w.cell? ⟨ob, 2, none⟩ = some (.string q.t) ∧ w.cell? ⟨ob, 3, none⟩ = some v ∧
    w.cell? ⟨ob, 4, none⟩ = some (.int .i64 q.n) ∧ w.cell? ⟨ob, 5, none⟩ = some (.int .i64 q.keep) ∧ w.cell? ⟨ob, 6, none⟩ = some (.int .i64 q.dirs) ∧ w.cell? ⟨ob, 7, none⟩ = some (.int .i64 q.tear) := by
  obtain ⟨_, h1, _⟩ := h.right
  obtain ⟨_, h2, _⟩ := h1.right
  obtain ⟨_, h3, _⟩ := h2.left
  obtain ⟨_, h4, _⟩ := h2.right
  exact ⟨(h3.blkAt (i := 0) (by omega)).1, (h3.blkAt (i := 1) (by omega)).1, (h4.blkAt (i := 0) (by omega)).1, (h4.blkAt (i := 1) (by omega)).1, (h4.blkAt (i := 2) (by omega)).1, (h4.blkAt (i := 3) (by omega)).1, (h4.blkAt (i := 4) (by omega)).1, (h4.blkAt (i := 5) (by omega)).1, (h4.blkAt (i := 6) (by omega)).1, (h4.blkAt (i := 7) (by omega)).1⟩

/-- The reference is called. -/
theorem Has.mid {A B X : Part} (h : Has o w0 w (A.sep (B.sep X))) : ∃ o', Has o' w w B ∧ (∀ x ∈ o', x ∈ o ∨ w0.heap.size ≤ x) ∧ ∀ w' B', Has o' w w' B' → Has o w0 w' (A.sep (B'.sep X)) := by
  obtain ⟨o1, h1, s1, _, b1⟩ := h.right
  obtain ⟨o2, h2, s2, _, b2⟩ := h1.left
  refine ⟨o2, h2, fun x hx => ?_, fun w' B' h' => b1 _ _ (b2 _ _ h')⟩
  rcases s2 x hx with h3 | h3
  · exact s1 x h3
  · right; have := h.keeps.size; omega

/-- The box of the operation beside. -/
theorem st_box (h : Has o w0 w (St wb db rb a b .emp)) (q : DOp) (v : Value) : Has o w0 (w.alloc (.cells #[.int .i64 q.kind, .string q.s, .string q.t, v, .int .i64 q.n, .int .i64 q.keep, .int .i64 q.dirs, .int .i64 q.tear] 38)) (St wb db rb a b (OP w.heap.size q v)) := by
  have hb := Has.madeBlk (w := w) #[.int .i64 q.kind, .string q.s, .string q.t, v, .int .i64 q.n, .int .i64 q.keep, .int .i64 q.dirs, .int .i64 q.tear] 38 (oF q v) 8 rfl (by
    intro i hi
    match i with
    | 0 | 1 | 2 | 3 | 4 | 5 | 6 | 7 => rfl
    | i + 8 => omega)
  have h1 := h.beside hb
  refine h1.weaken ?_
  refine (imp_assoc _ _ _).trans (Part.Imp.sep (Part.Imp.refl _) ?_)
  refine (imp_assoc _ _ _).trans (Part.Imp.sep (Part.Imp.refl _) ?_)
  exact Part.Imp.sep (Part.Imp.fst _ _) (Part.Imp.refl _)

theorem imp_emp (A : Part) : A.Imp .emp := fun w fp h => ⟨[], rfl, by simp⟩
theorem st_drop {X : Part} (h : Has o w0 w (St wb db rb a b X)) : Has o w0 w (St wb db rb a b .emp) :=
  h.weaken (Part.Imp.sep (Part.Imp.refl _) (Part.Imp.sep (Part.Imp.refl _) (Part.Imp.sep (Part.Imp.refl _) (imp_emp _))))

def Done9 (W0 w' : World) (wb : Nat) (a : ADk) : Prop := ∃ db rb, Has [] W0 w' (St wb db rb a a .emp)

set_option maxHeartbeats 4000000 in
set_option maxRecDepth 100000 in
theorem does_2 (h : Has [] w0 w (St wb db rb a a .emp)) (hq : q.Fits) (hp : pickN q.kind 9 = 2) (hv : ∃ p n c, v = .slice p n c) :
    Calls Try.prog 25 #[ptr wb, opV q v] w fun e w' => e = .returned (.bool true) ∧ Done9 w0 w' wb (a.act9 2 q) := by
  obtain ⟨vp, vn, vc, rfl⟩ := hv
  have HP := pick_walk q.kind hq.kind
  rw [hp] at HP
  have HP := Lib.hid HP
  have hB := (st_box h q (.slice vp vn vc)).drewN 1
  change Has [] w0 (w.alloc (.cells #[.int .i64 q.kind, .string q.s, .string q.t, .slice vp vn vc, .int .i64 q.n, .int .i64 q.keep, .int .i64 q.dirs, .int .i64 q.tear] 38)).drew _ at hB
  have HB := Lib.hid hB
  obtain ⟨w0c, w1c, o0, o1, o2, o3, o4, o5, o6, o7⟩ := st_cells hB
  have HQ := Lib.hid hq
  unfold ptr opV
  clear h hB hp hq
  go_enter Try.func25, Try.ntmps25
  go_wp2_with fail
  generalize hW : (w.alloc (.cells #[.int .i64 q.kind, .string q.s, .string q.t, .slice vp vn vc, .int .i64 q.n, .int .i64 q.keep, .int .i64 q.dirs, .int .i64 q.tear] 38)) = W at *
  generalize w.heap.size = ob at *
  clear hW
  refine (HP.out _).mono ?_
  rintro e w2 ⟨rfl, rfl⟩
  go_wp2_with fail
  go_region_held3 (fun w' => w'.cell? ⟨wb, 0, none⟩ = some (.pointer (some ⟨db, 0, none⟩)) ∧ w'.cell? ⟨wb, 1, none⟩ = some (.pointer (some ⟨rb, 0, none⟩)) ∧ w'.cell? ⟨ob, 0, none⟩ = some (.int .i64 q.kind) ∧ w'.cell? ⟨ob, 1, none⟩ = some (.string q.s) ∧ w'.cell? ⟨ob, 2, none⟩ = some (.string q.t) ∧ w'.cell? ⟨ob, 3, none⟩ = some (.slice vp vn vc) ∧ w'.cell? ⟨ob, 4, none⟩ = some (.int .i64 q.n) ∧ w'.cell? ⟨ob, 5, none⟩ = some (.int .i64 q.keep) ∧ w'.cell? ⟨ob, 6, none⟩ = some (.int .i64 q.dirs) ∧ w'.cell? ⟨ob, 7, none⟩ = some (.int .i64 q.tear))
    (first | exact ⟨w0c, w1c, o0, o1, o2, o3, o4, o5, o6, o7⟩ | exact st_cells h1 | exact st_cells h2 | go_keep)
    (first | (go_at_call 15
              refine (sync_sep HB.out q.s).mono ?_
              rintro e w8 ⟨rfl, h1⟩)
           | (go_at_call 42
              obtain ⟨om, hm, _, backm⟩ := h1.mid
              refine (rsync_walk hm q.s HQ.out.s).mono ?_
              rintro e w9 ⟨rfl, hr9⟩
              have h2 : Has [] w0 w9 (St wb db rb ((a.sync q.s.data.toList).2) ((a.sync q.s.data.toList).2) (OP ob q (.slice vp vn vc))) := backm _ _ hr9))
  go_wp2_with fail
  go_ret
  exact ⟨rfl, db, rb, st_drop h2⟩

set_option maxHeartbeats 4000000 in
set_option maxRecDepth 100000 in
theorem does_3 (h : Has [] w0 w (St wb db rb a a .emp)) (hq : q.Fits) (hp : pickN q.kind 9 = 3) (hv : ∃ p n c, v = .slice p n c) :
    Calls Try.prog 25 #[ptr wb, opV q v] w fun e w' => e = .returned (.bool true) ∧ Done9 w0 w' wb (a.act9 3 q) := by
  obtain ⟨vp, vn, vc, rfl⟩ := hv
  have HP := pick_walk q.kind hq.kind
  rw [hp] at HP
  have HP := Lib.hid HP
  have hB := (st_box h q (.slice vp vn vc)).drewN 1
  change Has [] w0 (w.alloc (.cells #[.int .i64 q.kind, .string q.s, .string q.t, .slice vp vn vc, .int .i64 q.n, .int .i64 q.keep, .int .i64 q.dirs, .int .i64 q.tear] 38)).drew _ at hB
  have HB := Lib.hid hB
  obtain ⟨w0c, w1c, o0, o1, o2, o3, o4, o5, o6, o7⟩ := st_cells hB
  have HQ := Lib.hid hq
  unfold ptr opV
  clear h hB hp hq
  go_enter Try.func25, Try.ntmps25
  go_wp2_with fail
  generalize hW : (w.alloc (.cells #[.int .i64 q.kind, .string q.s, .string q.t, .slice vp vn vc, .int .i64 q.n, .int .i64 q.keep, .int .i64 q.dirs, .int .i64 q.tear] 38)) = W at *
  generalize w.heap.size = ob at *
  clear hW
  refine (HP.out _).mono ?_
  rintro e w2 ⟨rfl, rfl⟩
  go_wp2_with fail
  go_region_held3 (fun w' => w'.cell? ⟨wb, 0, none⟩ = some (.pointer (some ⟨db, 0, none⟩)) ∧ w'.cell? ⟨wb, 1, none⟩ = some (.pointer (some ⟨rb, 0, none⟩)) ∧ w'.cell? ⟨ob, 0, none⟩ = some (.int .i64 q.kind) ∧ w'.cell? ⟨ob, 1, none⟩ = some (.string q.s) ∧ w'.cell? ⟨ob, 2, none⟩ = some (.string q.t) ∧ w'.cell? ⟨ob, 3, none⟩ = some (.slice vp vn vc) ∧ w'.cell? ⟨ob, 4, none⟩ = some (.int .i64 q.n) ∧ w'.cell? ⟨ob, 5, none⟩ = some (.int .i64 q.keep) ∧ w'.cell? ⟨ob, 6, none⟩ = some (.int .i64 q.dirs) ∧ w'.cell? ⟨ob, 7, none⟩ = some (.int .i64 q.tear))
    (first | exact ⟨w0c, w1c, o0, o1, o2, o3, o4, o5, o6, o7⟩ | exact st_cells h1 | exact st_cells h2 | go_keep)
    (first | (go_at_call 31
              refine (rename_sep HB.out q.s q.t).mono ?_
              rintro e w8 ⟨rfl, h1⟩)
           | (go_at_call 43
              obtain ⟨om, hm, _, backm⟩ := h1.mid
              refine (rrename_walk hm q.s q.t HQ.out.s HQ.out.t).mono ?_
              rintro e w9 ⟨rfl, hr9⟩
              have h2 : Has [] w0 w9 (St wb db rb ((a.rename q.s.data.toList q.t.data.toList).2) ((a.rename q.s.data.toList q.t.data.toList).2) (OP ob q (.slice vp vn vc))) := backm _ _ hr9))
  go_wp2_with fail
  go_ret
  exact ⟨rfl, db, rb, st_drop h2⟩

set_option maxHeartbeats 4000000 in
set_option maxRecDepth 100000 in
theorem does_4 (h : Has [] w0 w (St wb db rb a a .emp)) (hq : q.Fits) (hp : pickN q.kind 9 = 4) (hv : ∃ p n c, v = .slice p n c) :
    Calls Try.prog 25 #[ptr wb, opV q v] w fun e w' => e = .returned (.bool true) ∧ Done9 w0 w' wb (a.act9 4 q) := by
  obtain ⟨vp, vn, vc, rfl⟩ := hv
  have HP := pick_walk q.kind hq.kind
  rw [hp] at HP
  have HP := Lib.hid HP
  have hB := (st_box h q (.slice vp vn vc)).drewN 1
  change Has [] w0 (w.alloc (.cells #[.int .i64 q.kind, .string q.s, .string q.t, .slice vp vn vc, .int .i64 q.n, .int .i64 q.keep, .int .i64 q.dirs, .int .i64 q.tear] 38)).drew _ at hB
  have HB := Lib.hid hB
  obtain ⟨w0c, w1c, o0, o1, o2, o3, o4, o5, o6, o7⟩ := st_cells hB
  have HQ := Lib.hid hq
  unfold ptr opV
  clear h hB hp hq
  go_enter Try.func25, Try.ntmps25
  go_wp2_with fail
  generalize hW : (w.alloc (.cells #[.int .i64 q.kind, .string q.s, .string q.t, .slice vp vn vc, .int .i64 q.n, .int .i64 q.keep, .int .i64 q.dirs, .int .i64 q.tear] 38)) = W at *
  generalize w.heap.size = ob at *
  clear hW
  refine (HP.out _).mono ?_
  rintro e w2 ⟨rfl, rfl⟩
  go_wp2_with fail
  go_region_held3 (fun w' => w'.cell? ⟨wb, 0, none⟩ = some (.pointer (some ⟨db, 0, none⟩)) ∧ w'.cell? ⟨wb, 1, none⟩ = some (.pointer (some ⟨rb, 0, none⟩)) ∧ w'.cell? ⟨ob, 0, none⟩ = some (.int .i64 q.kind) ∧ w'.cell? ⟨ob, 1, none⟩ = some (.string q.s) ∧ w'.cell? ⟨ob, 2, none⟩ = some (.string q.t) ∧ w'.cell? ⟨ob, 3, none⟩ = some (.slice vp vn vc) ∧ w'.cell? ⟨ob, 4, none⟩ = some (.int .i64 q.n) ∧ w'.cell? ⟨ob, 5, none⟩ = some (.int .i64 q.keep) ∧ w'.cell? ⟨ob, 6, none⟩ = some (.int .i64 q.dirs) ∧ w'.cell? ⟨ob, 7, none⟩ = some (.int .i64 q.tear))
    (first | exact ⟨w0c, w1c, o0, o1, o2, o3, o4, o5, o6, o7⟩ | exact st_cells h1 | exact st_cells h2 | go_keep)
    (first | (go_at_call 13
              refine (delete_sep HB.out q.s).mono ?_
              rintro e w8 ⟨rfl, h1⟩)
           | (go_at_call 44
              obtain ⟨om, hm, _, backm⟩ := h1.mid
              refine (rdelete_walk hm q.s HQ.out.s).mono ?_
              rintro e w9 ⟨rfl, hr9⟩
              have h2 : Has [] w0 w9 (St wb db rb ((a.delete q.s.data.toList).2) ((a.delete q.s.data.toList).2) (OP ob q (.slice vp vn vc))) := backm _ _ hr9))
  go_wp2_with fail
  go_ret
  exact ⟨rfl, db, rb, st_drop h2⟩

set_option maxHeartbeats 4000000 in
set_option maxRecDepth 100000 in
theorem does_5 (h : Has [] w0 w (St wb db rb a a .emp)) (hq : q.Fits) (hp : pickN q.kind 9 = 5) (hv : ∃ p n c, v = .slice p n c) :
    Calls Try.prog 25 #[ptr wb, opV q v] w fun e w' => e = .returned (.bool true) ∧ Done9 w0 w' wb (a.act9 5 q) := by
  obtain ⟨vp, vn, vc, rfl⟩ := hv
  have HP := pick_walk q.kind hq.kind
  rw [hp] at HP
  have HP := Lib.hid HP
  have hB := (st_box h q (.slice vp vn vc)).drewN 1
  change Has [] w0 (w.alloc (.cells #[.int .i64 q.kind, .string q.s, .string q.t, .slice vp vn vc, .int .i64 q.n, .int .i64 q.keep, .int .i64 q.dirs, .int .i64 q.tear] 38)).drew _ at hB
  have HB := Lib.hid hB
  obtain ⟨w0c, w1c, o0, o1, o2, o3, o4, o5, o6, o7⟩ := st_cells hB
  have HQ := Lib.hid hq
  unfold ptr opV
  clear h hB hp hq
  go_enter Try.func25, Try.ntmps25
  go_wp2_with fail
  generalize hW : (w.alloc (.cells #[.int .i64 q.kind, .string q.s, .string q.t, .slice vp vn vc, .int .i64 q.n, .int .i64 q.keep, .int .i64 q.dirs, .int .i64 q.tear] 38)) = W at *
  generalize w.heap.size = ob at *
  clear hW
  refine (HP.out _).mono ?_
  rintro e w2 ⟨rfl, rfl⟩
  go_wp2_with fail
  go_region_held3 (fun w' => w'.cell? ⟨wb, 0, none⟩ = some (.pointer (some ⟨db, 0, none⟩)) ∧ w'.cell? ⟨wb, 1, none⟩ = some (.pointer (some ⟨rb, 0, none⟩)) ∧ w'.cell? ⟨ob, 0, none⟩ = some (.int .i64 q.kind) ∧ w'.cell? ⟨ob, 1, none⟩ = some (.string q.s) ∧ w'.cell? ⟨ob, 2, none⟩ = some (.string q.t) ∧ w'.cell? ⟨ob, 3, none⟩ = some (.slice vp vn vc) ∧ w'.cell? ⟨ob, 4, none⟩ = some (.int .i64 q.n) ∧ w'.cell? ⟨ob, 5, none⟩ = some (.int .i64 q.keep) ∧ w'.cell? ⟨ob, 6, none⟩ = some (.int .i64 q.dirs) ∧ w'.cell? ⟨ob, 7, none⟩ = some (.int .i64 q.tear))
    (first | exact ⟨w0c, w1c, o0, o1, o2, o3, o4, o5, o6, o7⟩ | exact st_cells h1 | exact st_cells h2 | go_keep)
    (first | (go_at_call 16
              refine (syncDir_sep HB.out).mono ?_
              rintro e w8 ⟨rfl, h1⟩)
           | (go_at_call 45
              obtain ⟨om, hm, _, backm⟩ := h1.mid
              refine (rsyncDir_walk hm).mono ?_
              rintro e w9 ⟨rfl, hr9⟩
              have h2 : Has [] w0 w9 (St wb db rb ((a.syncDir).2) ((a.syncDir).2) (OP ob q (.slice vp vn vc))) := backm _ _ hr9))
  go_wp2_with fail
  go_ret
  exact ⟨rfl, db, rb, st_drop h2⟩

end Go.Proofs.Ytbankfdgoolbdaa
namespace Go.Proofs.Ytbankfdgoolbdaa
open Go Go.RowKit Go.Lib
set_option linter.unusedVariables false
variable {o : List Nat} {w0 w w' w1 : World} {db rb wb ob : Nat} {a b : ADk} {q : DOp} {v : Value}

theorem cutAt_sep {R : Part} (h : Has o w0 w ((Dk db a).sep R)) (n : Int) : Calls Try.prog 23 #[ptr db, .int .i64 n] w fun e w' => e = .returned (.tuple #[]) ∧ Has o w0 w' ((Dk db (a.cutAt n)).sep R) := by
  obtain ⟨o', h1, _, _, back⟩ := h.left
  refine (cutAt_walk h1 n).mono ?_
  rintro e w' ⟨rfl, h2⟩
  exact ⟨rfl, back _ _ h2⟩
theorem poke_sep {R : Part} (h : Has o w0 w ((Dk db a).sep R)) (x : ByteArray) (k : Int) (c : UInt8) : Calls Try.prog 47 #[ptr db, .string x, .int .i64 k, byteV c] w fun e w' => e = .returned (.int .i64 (a.poke x.data.toList k c).1) ∧ Has o w0 w' ((Dk db (a.poke x.data.toList k c).2).sep R) := by
  obtain ⟨o', h1, _, _, back⟩ := h.left
  refine (poke_walk h1 x k c).mono ?_
  rintro e w' ⟨rfl, h2⟩
  exact ⟨rfl, back _ _ h2⟩

/-- The world's two cells stored. -/
theorem st_cell0 {X : Part} (h : Has o w0 w (St wb db rb a b X)) : w.cell? ⟨wb, 0, none⟩ = some (.pointer (some ⟨db, 0, none⟩)) ∧ w.frozen? ⟨wb, 0, none⟩ = false ∧ w.cell? ⟨wb, 1, none⟩ = some (.pointer (some ⟨rb, 0, none⟩)) ∧ w.frozen? ⟨wb, 1, none⟩ = false := by
  obtain ⟨_, h1, _⟩ := h.right
  obtain ⟨_, h2, _⟩ := h1.right
  obtain ⟨_, h3, _⟩ := h2.left
  exact ⟨(h3.blkAt (i := 0) (by omega)).1, (h3.blkAt (i := 0) (by omega)).2.1, (h3.blkAt (i := 1) (by omega)).1, (h3.blkAt (i := 1) (by omega)).2.1⟩

theorem st_setd {X : Part} {d2 : Nat} {a2 : ADk} (h : Has o w0 w (St wb db rb a b X)) (hd : Has [] w w' (Dk d2 a2)) : Has o w0 (w'.setCell ⟨wb, 0, none⟩ (.pointer (some ⟨d2, 0, none⟩))) (St wb d2 rb a2 b X) := by
  have h1 := h.beside hd
  have h2 : Has o w0 w' ((Dk d2 a2).sep ((Rf rb b).sep ((WP wb db rb).sep X))) := h1.weaken ((imp_comm _ _).trans (Part.Imp.sep (Part.Imp.refl _) (Part.Imp.snd _ _)))
  obtain ⟨_, h3, _, _, b3⟩ := h2.right
  obtain ⟨_, h4, _, _, b4⟩ := h3.right
  obtain ⟨_, h5, _, _, b5⟩ := h4.left
  have h6 := (h5.blkAt (i := 0) (by omega)).2.2 (.pointer (some ⟨d2, 0, none⟩))
  have e : upd (wF db rb) 0 (.pointer (some ⟨d2, 0, none⟩)) = wF d2 rb := by
    funext i
    unfold upd
    match i with
    | 0 => rfl
    | 1 => rfl
    | i + 2 => show (if i + 2 = 0 then _ else _) = _; rw [if_neg (by omega)]; rfl
  rw [e] at h6
  exact b3 _ _ (b4 _ _ (b5 _ _ h6))

theorem st_setr {X : Part} {r2 : Nat} {b2 : ADk} (h : Has o w0 w (St wb db rb a b X)) (hd : Has [] w w' (Rf r2 b2)) : Has o w0 (w'.setCell ⟨wb, 1, none⟩ (.pointer (some ⟨r2, 0, none⟩))) (St wb db r2 a b2 X) := by
  have h1 := h.beside hd
  have h2 : Has o w0 w' ((Dk db a).sep ((Rf r2 b2).sep ((WP wb db rb).sep X))) := by
    refine h1.weaken ((imp_assoc _ _ _).trans (Part.Imp.sep (Part.Imp.refl _) ?_))
    exact (imp_comm _ _).trans (Part.Imp.sep (Part.Imp.refl _) (Part.Imp.snd _ _))
  obtain ⟨_, h3, _, _, b3⟩ := h2.right
  obtain ⟨_, h4, _, _, b4⟩ := h3.right
  obtain ⟨_, h5, _, _, b5⟩ := h4.left
  have h6 := (h5.blkAt (i := 1) (by omega)).2.2 (.pointer (some ⟨r2, 0, none⟩))
  have e : upd (wF db rb) 1 (.pointer (some ⟨r2, 0, none⟩)) = wF db r2 := by
    funext i
    unfold upd
    match i with
    | 0 => rfl
    | 1 => rfl
    | i + 2 => show (if i + 2 = 1 then _ else _) = _; rw [if_neg (by omega)]; rfl
  rw [e] at h6
  exact b3 _ _ (b4 _ _ (b5 _ _ h6))

set_option maxHeartbeats 4000000 in
set_option maxRecDepth 100000 in
theorem does_6 (h : Has [] w0 w (St wb db rb a a .emp)) (hq : q.Fits) (hp : pickN q.kind 9 = 6) (hv : ∃ p n c, v = .slice p n c) :
    Calls Try.prog 25 #[ptr wb, opV q v] w fun e w' => e = .returned (.bool true) ∧ Done9 w0 w' wb (a.act9 6 q) := by
  obtain ⟨vp, vn, vc, rfl⟩ := hv
  have HP := pick_walk q.kind hq.kind
  rw [hp] at HP
  have HP := Lib.hid HP
  have hB := (st_box h q (.slice vp vn vc)).drewN 1
  change Has [] w0 (w.alloc (.cells #[.int .i64 q.kind, .string q.s, .string q.t, .slice vp vn vc, .int .i64 q.n, .int .i64 q.keep, .int .i64 q.dirs, .int .i64 q.tear] 38)).drew _ at hB
  have HB := Lib.hid hB
  obtain ⟨w0c, w1c, o0, o1, o2, o3, o4, o5, o6, o7⟩ := st_cells hB
  obtain ⟨_, w0f, _, w1f⟩ := st_cell0 hB
  have HQ := Lib.hid hq
  unfold ptr opV
  clear h hB hp hq
  go_enter Try.func25, Try.ntmps25
  go_wp2_with fail
  generalize hW : (w.alloc (.cells #[.int .i64 q.kind, .string q.s, .string q.t, .slice vp vn vc, .int .i64 q.n, .int .i64 q.keep, .int .i64 q.dirs, .int .i64 q.tear] 38)) = W at *
  generalize w.heap.size = ob at *
  clear hW
  refine (HP.out _).mono ?_
  rintro e w2 ⟨rfl, rfl⟩
  go_wp2_with fail
  go_region_held3 (fun w' => w'.cell? ⟨wb, 0, none⟩ = some (.pointer (some ⟨db, 0, none⟩)) ∧ w'.cell? ⟨wb, 1, none⟩ = some (.pointer (some ⟨rb, 0, none⟩)) ∧ w'.cell? ⟨ob, 0, none⟩ = some (.int .i64 q.kind) ∧ w'.cell? ⟨ob, 1, none⟩ = some (.string q.s) ∧ w'.cell? ⟨ob, 2, none⟩ = some (.string q.t) ∧ w'.cell? ⟨ob, 3, none⟩ = some (.slice vp vn vc) ∧ w'.cell? ⟨ob, 4, none⟩ = some (.int .i64 q.n) ∧ w'.cell? ⟨ob, 5, none⟩ = some (.int .i64 q.keep) ∧ w'.cell? ⟨ob, 6, none⟩ = some (.int .i64 q.dirs) ∧ w'.cell? ⟨ob, 7, none⟩ = some (.int .i64 q.tear))
    (first | exact ⟨w0c, w1c, o0, o1, o2, o3, o4, o5, o6, o7⟩ | exact st_cells h1 | go_keep)
    (first | (go_at_call 23
              refine (cutAt_sep HB.out q.n).mono ?_
              rintro e w8 ⟨rfl, h1⟩))
  obtain ⟨w0d, w1d, p0, p1, p2, p3, p4, p5, p6, p7⟩ := st_cells h1
  go_wp2_with fail
  go_region_held3 (fun w' => w'.cell? ⟨wb, 0, none⟩ = some (.pointer (some ⟨db, 0, none⟩)) ∧ w'.cell? ⟨wb, 1, none⟩ = some (.pointer (some ⟨rb, 0, none⟩)) ∧ w'.cell? ⟨ob, 0, none⟩ = some (.int .i64 q.kind) ∧ w'.cell? ⟨ob, 1, none⟩ = some (.string q.s) ∧ w'.cell? ⟨ob, 2, none⟩ = some (.string q.t) ∧ w'.cell? ⟨ob, 3, none⟩ = some (.slice vp vn vc) ∧ w'.cell? ⟨ob, 4, none⟩ = some (.int .i64 q.n) ∧ w'.cell? ⟨ob, 5, none⟩ = some (.int .i64 q.keep) ∧ w'.cell? ⟨ob, 6, none⟩ = some (.int .i64 q.dirs) ∧ w'.cell? ⟨ob, 7, none⟩ = some (.int .i64 q.tear))
    (first | exact ⟨w0d, w1d, p0, p1, p2, p3, p4, p5, p6, p7⟩ | exact st_cells h2 | go_keep)
    (first | (go_at_call 46
              obtain ⟨om, hm, _, backm⟩ := (Has.drewN h1 1).mid
              refine (rcutAt_walk hm q.n).mono ?_
              rintro e w9 ⟨rfl, hr9⟩
              have h2 : Has [] w0 w9 (St wb db rb (a.cutAt q.n) (a.cutAt q.n) (OP ob q (.slice vp vn vc))) := backm _ _ hr9))
  go_wp2_with fail
  go_ret
  exact ⟨rfl, db, rb, st_drop h2⟩

set_option maxHeartbeats 4000000 in
set_option maxRecDepth 100000 in
theorem does_7 (h : Has [] w0 w (St wb db rb a a .emp)) (hq : q.Fits) (hp : pickN q.kind 9 = 7) (hv : ∃ p c, v = .slice p q.b.length c) :
    Calls Try.prog 25 #[ptr wb, opV q v] w fun e w' => e = .returned (.bool true) ∧ Done9 w0 w' wb (a.act9 7 q) := by
  obtain ⟨vp, vc, rfl⟩ := hv
  obtain ⟨vn, hvn⟩ : ∃ n, q.b.length = n := ⟨_, rfl⟩
  have hby : Value.int .u8 (IntKind.u8.wrap (vn : Int)) = byteV (UInt8.ofNat vn) := by
    unfold byteV; congr 1
  have HBY := Lib.hid hby
  rw [hvn]
  clear hby
  have HP := pick_walk q.kind hq.kind
  rw [hp] at HP
  have HP := Lib.hid HP
  have hB := (st_box h q (.slice vp vn vc)).drewN 1
  change Has [] w0 (w.alloc (.cells #[.int .i64 q.kind, .string q.s, .string q.t, .slice vp vn vc, .int .i64 q.n, .int .i64 q.keep, .int .i64 q.dirs, .int .i64 q.tear] 38)).drew _ at hB
  have HB := Lib.hid hB
  obtain ⟨w0c, w1c, o0, o1, o2, o3, o4, o5, o6, o7⟩ := st_cells hB
  obtain ⟨_, w0f, _, w1f⟩ := st_cell0 hB
  have HQ := Lib.hid hq
  unfold ptr opV
  clear h hB hp hq
  go_enter Try.func25, Try.ntmps25
  go_wp2_with fail
  generalize hW : (w.alloc (.cells #[.int .i64 q.kind, .string q.s, .string q.t, .slice vp vn vc, .int .i64 q.n, .int .i64 q.keep, .int .i64 q.dirs, .int .i64 q.tear] 38)) = W at *
  generalize w.heap.size = ob at *
  clear hW
  refine (HP.out _).mono ?_
  rintro e w2 ⟨rfl, rfl⟩
  go_wp2_with fail
  go_region_held3 (fun w' => w'.cell? ⟨wb, 0, none⟩ = some (.pointer (some ⟨db, 0, none⟩)) ∧ w'.cell? ⟨wb, 1, none⟩ = some (.pointer (some ⟨rb, 0, none⟩)) ∧ w'.cell? ⟨ob, 0, none⟩ = some (.int .i64 q.kind) ∧ w'.cell? ⟨ob, 1, none⟩ = some (.string q.s) ∧ w'.cell? ⟨ob, 2, none⟩ = some (.string q.t) ∧ w'.cell? ⟨ob, 3, none⟩ = some (.slice vp vn vc) ∧ w'.cell? ⟨ob, 4, none⟩ = some (.int .i64 q.n) ∧ w'.cell? ⟨ob, 5, none⟩ = some (.int .i64 q.keep) ∧ w'.cell? ⟨ob, 6, none⟩ = some (.int .i64 q.dirs) ∧ w'.cell? ⟨ob, 7, none⟩ = some (.int .i64 q.tear))
    (first | exact ⟨w0c, w1c, o0, o1, o2, o3, o4, o5, o6, o7⟩ | exact st_cells h1 | exact st_cells h2 | go_keep)
    (first | (go_at_call 47
              (try rw [HBY.out])
              refine (poke_sep HB.out q.s q.n (UInt8.ofNat vn)).mono ?_
              rintro e w8 ⟨rfl, h1⟩)
           | (go_at_call 48
              (try rw [HBY.out])
              obtain ⟨om, hm, _, backm⟩ := h1.mid
              refine (rpoke_walk hm q.s HQ.out.s q.n HQ.out.n (UInt8.ofNat vn)).mono ?_
              rintro e w9 ⟨rfl, hr9⟩
              have h2 : Has [] w0 w9 (St wb db rb ((a.poke q.s.data.toList q.n (UInt8.ofNat vn)).2) ((a.poke q.s.data.toList q.n (UInt8.ofNat vn)).2) (OP ob q (.slice vp vn vc))) := backm _ _ hr9))
  go_wp2_with fail
  go_ret
  refine ⟨rfl, db, rb, ?_⟩
  show Has [] w0 _ (St wb db rb ((a.poke q.s.data.toList q.n (UInt8.ofNat q.b.length)).2) ((a.poke q.s.data.toList q.n (UInt8.ofNat q.b.length)).2) .emp)
  rw [hvn]
  exact st_drop h2

set_option maxHeartbeats 4000000 in
set_option maxRecDepth 100000 in
theorem does_8 (h : Has [] w0 w (St wb db rb a a .emp)) (hq : q.Fits) (hp : pickN q.kind 9 = 8) (hv : ∃ p n c, v = .slice p n c) :
    Calls Try.prog 25 #[ptr wb, opV q v] w fun e w' => e = .returned (.bool true) ∧ Done9 w0 w' wb (a.act9 8 q) := by
  obtain ⟨vp, vn, vc, rfl⟩ := hv
  have HP := pick_walk q.kind hq.kind
  rw [hp] at HP
  have HP := Lib.hid HP
  have hB := (st_box h q (.slice vp vn vc)).drewN 1
  change Has [] w0 (w.alloc (.cells #[.int .i64 q.kind, .string q.s, .string q.t, .slice vp vn vc, .int .i64 q.n, .int .i64 q.keep, .int .i64 q.dirs, .int .i64 q.tear] 38)).drew _ at hB
  have HB := Lib.hid hB
  obtain ⟨w0c, w1c, o0, o1, o2, o3, o4, o5, o6, o7⟩ := st_cells hB
  obtain ⟨_, w0f, _, w1f⟩ := st_cell0 hB
  have HQ := Lib.hid hq
  unfold ptr opV
  clear h hB hp hq
  go_enter Try.func25, Try.ntmps25
  go_wp2_with fail
  generalize hW : (w.alloc (.cells #[.int .i64 q.kind, .string q.s, .string q.t, .slice vp vn vc, .int .i64 q.n, .int .i64 q.keep, .int .i64 q.dirs, .int .i64 q.tear] 38)) = W at *
  generalize w.heap.size = ob at *
  clear hW
  refine (HP.out _).mono ?_
  rintro e w2 ⟨rfl, rfl⟩
  go_upto_region 33 with fail
  go_cut [] from 206 (fun wx => ∃ d2, Has [] w0 wx (St wb d2 rb (a.crash q.keep q.dirs q.tear) a (OP ob q (.slice vp vn vc))))
  case first =>
    go_region_law
      (first | ((first | go_simp | skip)
                go_at_call 17
                obtain ⟨om, hm, _, _, _⟩ := HB.out.left
                refine (crash_walk hm q.keep q.dirs q.tear).mono ?_
                rintro e w8 ⟨d2, rfl, h1⟩
                obtain ⟨w0d, w0e, _, _⟩ := st_cell0 (HB.out.quiet h1.keeps)
                have H3 := Lib.hid (st_setd HB.out h1)
                unfold ptr))
    all_goals (
      go_wp2_with fail
      go_meet
      exact ⟨_, H3.out⟩)
  case rest =>
  obtain ⟨d2, h3⟩ := hcut
  clear HB w0c w1c w0f w1f o0 o1 o2 o3 o4 o5 o6 o7
  have hB2 := h3.drewN 1
  change Has [] w0 wc.drew _ at hB2
  have HB2 := Lib.hid hB2
  obtain ⟨x0c, x1c, p0, p1, p2, p3, p4, p5, p6, p7⟩ := st_cells HB2.out
  obtain ⟨_, x0f, _, x1f⟩ := st_cell0 HB2.out
  clear h3 hB2
  go_upto_region 34 with fail
  go_cut [] from 206 (fun wx => ∃ r2, Has [] w0 wx (St wb d2 r2 (a.crash q.keep q.dirs q.tear) (a.crash q.keep q.dirs q.tear) (OP ob q (.slice vp vn vc))))
  case first =>
    go_region_law
      (first | ((first | go_simp | skip)
                go_at_call 49
                obtain ⟨om, hm, _⟩ := HB2.out.mid
                refine (rcrash_walk hm q.keep q.dirs q.tear HQ.out.dirs).mono ?_
                rintro e w9 ⟨r2, rfl, h2⟩
                obtain ⟨_, _, w1d, w1e⟩ := st_cell0 (HB2.out.quiet h2.keeps)
                have H4 := Lib.hid (st_setr HB2.out h2)
                unfold ptr))
    all_goals (
      go_wp2_with fail
      go_meet
      exact ⟨_, H4.out⟩)
  case rest =>
  obtain ⟨r2, h4⟩ := hcut
  obtain ⟨y0c, _⟩ := st_cell0 h4
  have H4 := Lib.hid h4
  clear h4
  go_wp2_with fail
  go_ret
  exact ⟨rfl, _, _, st_drop H4.out⟩

end Go.Proofs.Ytbankfdgoolbdaa
namespace Go.Proofs.Ytbankfdgoolbdaa
open Go Go.RowKit Go.Lib
set_option linter.unusedVariables false
variable {o : List Nat} {w0 w w' w1 : World} {db rb wb ob : Nat} {a b : ADk} {q : DOp} {v : Value}

/-- A byte of an own row stored. -/
theorem bytes_put {n c : Nat} {p : Option Addr} {xs : List Value} (h : Has o w0 w (.row 5 1 (.slice p n c) n xs)) {i : Nat} (hi : i < n) (u : Value) :
    ∃ g u0, p = some ⟨g, 0, none⟩ ∧ n ≤ c ∧ w.cell? ⟨g, i, none⟩ = some u0 ∧ w.frozen? ⟨g, i, none⟩ = false ∧ Has o w0 (w.setCell ⟨g, i, none⟩ u) (.row 5 1 (.slice p n c) n (xs.set i u)) := by
  obtain ⟨_, ⟨hr, _⟩, _⟩ := id h
  have hl : xs.length = n := by have := hr.1; simpa using this
  rcases rowN_open hr with ⟨e, h0⟩ | ⟨g, cap, e, hnc, _, _, hf, hc⟩
  · omega
  · injection e with e1 _ e2
    subst e1 e2
    exact ⟨g, _, rfl, hnc, hc i _ (List.getElem?_eq_getElem (by omega)), hf i, Has.rowStore h i u⟩

theorem bytes_len {n c : Nat} {p : Option Addr} {xs : List Value} (h : Has o w0 w (.row 5 1 (.slice p n c) n xs)) : n ≤ maxLen := by
  obtain ⟨_, ⟨hr, _⟩, _⟩ := h
  rcases rowN_open hr with ⟨e, h0⟩ | ⟨g, cap, e, hnc, hm, _⟩
  · omega
  · omega

theorem read_st {X : Part} {x : List UInt8} {e : Int} (h : Has [] w0 w (St wb db rb a b X)) (s : ByteArray) (hr : a.read s.data.toList = (x, e)) {n : Nat} (hn : x.length = n) :
    Calls Try.prog 18 #[.pointer (some ⟨db, 0, none⟩), .string s] w fun r w' => ∃ p c, r = .returned (.tuple #[.slice p n c, .int .i64 e]) ∧ Has [] w0 w' ((St wb db rb a b X).sep (.row 5 1 (.slice p n c) n (bytesV x))) ∧ BytesAt w' (.slice p n c) x := by
  obtain ⟨_, hm, _⟩ := h.left
  refine (read_walk hm s).mono ?_
  rw [hr]
  rintro r w' ⟨v, rfl, h'⟩
  have hb := bytesAt_part h'
  obtain ⟨_, ⟨hr, _⟩, _⟩ := id h'
  obtain ⟨p, c, rfl⟩ := rowSlice hr
  subst hn
  exact ⟨p, c, rfl, h.beside h', hb⟩

theorem rread_st {X Y : Part} {x : List UInt8} {e : Int} (h : Has [] w0 w ((St wb db rb a b X).sep Y)) (s : ByteArray) (hs : s.size ≤ maxLen) (hr : b.read s.data.toList = (x, e)) {n : Nat} (hn : x.length = n) :
    Calls Try.prog 41 #[.pointer (some ⟨rb, 0, none⟩), .string s] w fun r w' => ∃ p c, r = .returned (.tuple #[.slice p n c, .int .i64 e]) ∧ Kept [] w w' ∧ BytesAt w' (.slice p n c) x := by
  obtain ⟨_, hm, _⟩ := h.fst.mid
  refine (rread_walk hm s hs).mono ?_
  rw [hr]
  rintro r w' ⟨v, rfl, hb, k⟩
  obtain ⟨p, c, rfl, _⟩ := id hb
  subst hn
  exact ⟨p, c, rfl, k, hb⟩

/-- Append of bytes that lie in a part beside. -/
theorem append_sepR {R : Part} {bs : List UInt8} (h : Has o w0 w ((Dk db a).sep R)) (x : ByteArray) (hR : ∀ o2 w', Has o2 w' w' R → BytesX w' v bs) :
    Calls Try.prog 14 #[ptr db, .string x, v] w fun e w' => e = .returned (.int .i64 (a.append x.data.toList bs).1) ∧ Has o w0 w' ((Dk db (a.append x.data.toList bs).2).sep R) := by
  obtain ⟨o', h1, _, h3, back⟩ := h.leftB
  refine (append_walk h1 x v bs fun w' k => ?_).mono ?_
  · obtain ⟨o2, h4⟩ := h3 w' k
    exact hR _ _ h4
  · rintro e w' ⟨rfl, h5⟩
    exact ⟨rfl, back _ _ h5⟩

theorem append_st {Y : Part} {bs : List UInt8} {n c : Nat} {p : Option Addr} (h : Has o w0 w ((St wb db rb a b Y).sep (.row 5 1 (.slice p n c) n (bytesV bs)))) (hn : bs.length = n) (s : ByteArray) :
    Calls Try.prog 14 #[.pointer (some ⟨db, 0, none⟩), .string s, .slice p n c] w fun e w' => e = .returned (.int .i64 (a.append s.data.toList bs).1) ∧ Has o w0 w' ((St wb db rb (a.append s.data.toList bs).2 b Y).sep (.row 5 1 (.slice p n c) n (bytesV bs))) := by
  refine (append_sepR (bs := bs) (v := .slice p n c) (h.weaken (imp_assoc _ _ _)) s fun o2 w' hR => ?_).mono ?_
  · obtain ⟨_, hr, _⟩ := hR.right
    subst hn
    exact (bytesAt_part hr).x
  · rintro e w' ⟨rfl, h'⟩
    exact ⟨rfl, h'.weaken (((imp_comm _ _).trans ((imp_assoc _ _ _).trans ((imp_comm _ _).trans ((imp_assoc _ _ _).trans (imp_comm _ _))))))⟩

theorem rappend_st {Y Z : Part} {bs : List UInt8} (h : Has [] w0 w ((St wb db rb a b Y).sep Z)) (s : ByteArray) (hs : s.size ≤ maxLen) (hB : BytesX w0 v bs) :
    Calls Try.prog 40 #[.pointer (some ⟨rb, 0, none⟩), .string s, v] w fun e w' => e = .returned (.int .i64 (b.append s.data.toList bs).1) ∧ Has [] w0 w' ((St wb db rb a (b.append s.data.toList bs).2 Y).sep Z) := by
  have hk := h.keeps
  obtain ⟨o1, h1, s1, _, b1⟩ := h.left
  obtain ⟨om, hm, s2, back⟩ := h1.mid
  refine (rappend_walk hm s hs v bs fun w' k' => ?_).mono ?_
  · refine hB.kept (own := om) ((hk.mono fun _ _ h => by simp at h).tr k') fun y hy => ?_
    rcases s2 y hy with h2 | h2
    · exact (s1 y h2).resolve_left (by simp)
    · have := hk.size; omega
  · rintro e w' ⟨rfl, h2⟩
    exact ⟨rfl, b1 _ _ (back _ _ h2)⟩

/-- The bytes appended to a new row. -/
theorem run_append_copy (w : World) {x : Value} {ys : List UInt8} (hx : BytesX w x ys) (g : Nat) (hown : w.ownsRow 0 5 1 (.slice (some ⟨g, 0, none⟩) 0 0) 0 []) (hb : ys.length ≤ 140737488351232) :
    ∃ p c w', (∀ ty, (Builtin.append_ #[27, 27] ty #[.slice (some ⟨g, 0, none⟩) 0 0, x]).run Try.prog w = .ok (.slice p ys.length c) w') ∧ Appended w w' 5 1 (.slice (some ⟨g, 0, none⟩) 0 0) (.slice p ys.length c) ys.length (bytesV ys) := by
  obtain ⟨p, c, rfl, hn, hc⟩ := hx.out
  obtain ⟨i0, hi, he⟩ := Option.map_eq_some_iff.1 info_u8
  obtain ⟨hz0, hz1, hz2⟩ : i0.zero = some (.int .u8 0) ∧ i0.size = 1 ∧ i0.bytes = 1 := by simpa using he
  cases p with
  | none =>
    obtain ⟨h0, rfl⟩ := hn rfl
    obtain rfl : ys = [] := List.eq_nil_of_length_eq_zero h0
    exact ⟨_, _, _, fun _ => append_nothing w _ 0 0 (Nat.le_refl _), hown, ⟨rfl, rfl, rfl, Nat.le_refl _, fun _ _ _ => rfl⟩, .inl rfl⟩
  | some ad =>
    have hc := hc ad rfl
    have hmx : (140737488351232 : Nat) ≤ maxLen := by decide
    obtain ⟨v', w', hr, ha⟩ := run_append_new (P := Try.prog) w 27 27 5 i0 (.int .u8 0) 1 1 Try.underlying27 hi hz0 hz1 hz2 rfl (by decide) (.slice (some ⟨g, 0, none⟩) 0 0) 0 [] hown ad ys.length c (bytesV ys) (by simp [bytesV_length]) hc (fun u hu => by
      unfold bytesV at hu
      obtain ⟨c, _, rfl⟩ := List.mem_map.1 hu
      rfl) (by omega) (by omega)
    rw [List.nil_append, Nat.zero_add] at ha
    obtain ⟨p', c', e⟩ := rowSlice ha.row
    subst e
    exact ⟨p', c', w', fun _ => hr, ha⟩

set_option maxHeartbeats 4000000 in
set_option maxRecDepth 100000 in
theorem does_1 (h : Has [] w0 w (St wb db rb a a .emp)) (hq : q.Fits) (hp : pickN q.kind 9 = 1) (hv : ∃ p n c, v = .slice p n c) :
    Calls Try.prog 25 #[ptr wb, opV q v] w fun e w' => e = .returned (.bool true) ∧ Done9 w0 w' wb (a.act9 1 q) := by
  obtain ⟨vp, vn, vc, rfl⟩ := hv
  obtain ⟨x, xe, hx⟩ : ∃ x xe, a.read q.s.data.toList = (x, xe) := ⟨_, _, rfl⟩
  obtain ⟨n, hn⟩ : ∃ n, x.length = n := ⟨_, rfl⟩
  have HX := Lib.hid hx
  have HN := Lib.hid hn
  clear hx hn
  have HP := pick_walk q.kind hq.kind
  rw [hp] at HP
  have HP := Lib.hid HP
  have hB := (st_box h q (.slice vp vn vc)).drewN 1
  change Has [] w0 (w.alloc (.cells #[.int .i64 q.kind, .string q.s, .string q.t, .slice vp vn vc, .int .i64 q.n, .int .i64 q.keep, .int .i64 q.dirs, .int .i64 q.tear] 38)).drew _ at hB
  have HB := Lib.hid hB
  obtain ⟨w0c, w1c, o0, o1, o2, o3, o4, o5, o6, o7⟩ := st_cells hB
  obtain ⟨_, w0f, _, w1f⟩ := st_cell0 hB
  have HQ := Lib.hid hq
  unfold ptr opV
  clear h hB hp hq
  go_enter Try.func25, Try.ntmps25
  go_wp2_with fail
  generalize hW : (w.alloc (.cells #[.int .i64 q.kind, .string q.s, .string q.t, .slice vp vn vc, .int .i64 q.n, .int .i64 q.keep, .int .i64 q.dirs, .int .i64 q.tear] 38)) = W at *
  generalize w.heap.size = ob at *
  clear hW
  refine (HP.out _).mono ?_
  rintro e w2 ⟨rfl, rfl⟩
  go_wp2_with fail
  go_region_held3 (fun w' => w'.cell? ⟨wb, 0, none⟩ = some (.pointer (some ⟨db, 0, none⟩)) ∧ w'.cell? ⟨wb, 1, none⟩ = some (.pointer (some ⟨rb, 0, none⟩)) ∧ w'.cell? ⟨ob, 0, none⟩ = some (.int .i64 q.kind) ∧ w'.cell? ⟨ob, 1, none⟩ = some (.string q.s) ∧ w'.cell? ⟨ob, 2, none⟩ = some (.string q.t) ∧ w'.cell? ⟨ob, 3, none⟩ = some (.slice vp vn vc) ∧ w'.cell? ⟨ob, 4, none⟩ = some (.int .i64 q.n) ∧ w'.cell? ⟨ob, 5, none⟩ = some (.int .i64 q.keep) ∧ w'.cell? ⟨ob, 6, none⟩ = some (.int .i64 q.dirs) ∧ w'.cell? ⟨ob, 7, none⟩ = some (.int .i64 q.tear))
    (first | exact ⟨w0c, w1c, o0, o1, o2, o3, o4, o5, o6, o7⟩ | exact st_cells H8.out.fst | go_keep)
    (first | (go_at_call 18
              refine (read_st HB.out q.s HX.out HN.out).mono ?_
              rintro e w8 ⟨bp, bc, rfl, h8, hb8⟩
              have H8 := Lib.hid h8
              have HB8 := Lib.hid hb8
              clear h8 hb8))
  go_upto_region 12 with fail
  obtain ⟨w0d, w1d, p0, p1, p2, p3, p4, p5, p6, p7⟩ := st_cells H8.out.fst
  go_region_held3 (fun w' => w'.cell? ⟨wb, 0, none⟩ = some (.pointer (some ⟨db, 0, none⟩)) ∧ w'.cell? ⟨wb, 1, none⟩ = some (.pointer (some ⟨rb, 0, none⟩)) ∧ w'.cell? ⟨ob, 0, none⟩ = some (.int .i64 q.kind) ∧ w'.cell? ⟨ob, 1, none⟩ = some (.string q.s) ∧ w'.cell? ⟨ob, 2, none⟩ = some (.string q.t) ∧ w'.cell? ⟨ob, 3, none⟩ = some (.slice vp vn vc) ∧ w'.cell? ⟨ob, 4, none⟩ = some (.int .i64 q.n) ∧ w'.cell? ⟨ob, 5, none⟩ = some (.int .i64 q.keep) ∧ w'.cell? ⟨ob, 6, none⟩ = some (.int .i64 q.dirs) ∧ w'.cell? ⟨ob, 7, none⟩ = some (.int .i64 q.tear))
    (first | exact ⟨w0d, w1d, p0, p1, p2, p3, p4, p5, p6, p7⟩ | exact st_cells (H8.out.fst.quiet k9.out) | go_keep)
    (first | (go_at_call 41
              refine (rread_st (Has.drewN H8.out 1) q.s HQ.out.s HX.out HN.out).mono ?_
              rintro e w9 ⟨cp, cc, rfl, k9', hb9⟩
              have k9 := Lib.hid ((Kept.refl _ _).drew.tr k9')
              have HB9 := Lib.hid hb9
              clear hb9 k9'))
  have t1 := conv_strX (HB8.out.x.kept k9.out (by simp))
  have t2 := conv_str HB9.out
  have H9 := Lib.hid (H8.out.quiet k9.out)
  obtain ⟨_, hsnd, _⟩ := H9.out.right
  have HN9 : n ≤ 9223372036854775807 := bytes_len hsnd
  clear hsnd
  clear H8 HB8 HB9 HB w0c w1c o0 o1 o2 o3 o4 o5 o6 o7 w0d w1d p0 p1 p2 p3 p4 p5 p6 p7 w0f w1f
  go_wp2_with fail
  go_loopg [13] n (fun g iv wr => ∃ i : Nat, i ≤ n ∧ g = n - i ∧ iv = .int .i64 i ∧ ∃ xs, Has [] w0 wr ((St wb db rb a a (OP ob q (.slice vp vn vc))).sep (.row 5 1 (.slice bp n bc) n xs)))
  case atStart => exact ⟨0, Nat.zero_le _, rfl, rfl, _, H9.out⟩
  case round =>
    obtain ⟨i, hi', hkk, rfl, xs, hH⟩ := hrel
    have HKK := Lib.hid hkk
    have HH := Lib.hid hH
    clear hkk
    by_cases hlt : i < n
    · have d1 : ((i : Int) < (n : Int)) ↔ True := by simp; omega
      obtain ⟨_, hs, _, _, backs⟩ := hH.right
      obtain ⟨g, u0, rfl, hnc, cg, fg, hset⟩ := bytes_put hs hlt (.int .u8 78)
      have HS := Lib.hid (backs _ _ hset)
      clear hs backs hset hH
      go_wp2_with fail
      go_roundg (n - (i + 1))
      case measure => rw [HKK.out]; omega
      case rel => exact ⟨i + 1, by omega, rfl, by go_num, _, HS.out⟩
    · have d1 : ((i : Int) < (n : Int)) ↔ False := by simp; omega
      clear hH
      go_wp2_with fail
      go_ret
      exact ⟨rfl, db, rb, st_drop HH.out.fst⟩

theorem own_empty (w : World) : (w.alloc (.cells #[] 5)).ownsRow 0 5 1 (.slice (some ⟨w.heap.size, 0, none⟩) 0 0) 0 [] :=
  ⟨rfl, .inr ⟨_, 0, #[], rfl, Nat.zero_le _, heap_alloc_new _ _, Nat.le_refl _, by decide, rfl, rfl⟩⟩

theorem copy_row (W : World) {x : Value} {ys : List UInt8} (hx : BytesX W x ys) (hb : ys.length ≤ 140737488351232) :
    ∃ p c w', (∀ ty, (Builtin.append_ #[27, 27] ty #[.slice (some ⟨W.heap.size, 0, none⟩) 0 0, x]).run Try.prog (W.alloc (.cells #[] 5)) = .ok (.slice p ys.length c) w') ∧ Has [] W w' (.row 5 1 (.slice p ys.length c) ys.length (bytesV ys)) := by
  have k0 : Kept [] W (W.alloc (.cells #[] 5)) := (Kept.refl _ _).alloc _
  obtain ⟨p, c, w', hr, ha⟩ := run_append_copy (W.alloc (.cells #[] 5)) (hx.kept k0 (by simp)) W.heap.size (own_empty W) hb
  have h0 : Has [] W (W.alloc (.cells #[] 5)) (.row 5 1 (.slice (some ⟨W.heap.size, 0, none⟩) 0 0) 0 []) := by
    refine ⟨rowsOf (.slice (some ⟨W.heap.size, 0, none⟩) 0 0), ⟨own_empty W, rfl⟩, fun x hx => .inr ?_, k0⟩
    rw [mem_rowsOf] at hx
    simp only [Value.ownBlock, Option.some.injEq] at hx
    omega
  exact ⟨p, c, w', hr, Has.appendRow0 h0 ha⟩

set_option maxHeartbeats 4000000 in
set_option maxRecDepth 100000 in
theorem does_0 (h : Has [] w0 w (St wb db rb a a .emp)) (hq : q.Fits) (hp : pickN q.kind 9 = 0) (hv : BytesX w0 v q.b) (hsz : q.b.length ≤ 140737488351232) :
    Calls Try.prog 25 #[ptr wb, opV q v] w fun e w' => e = .returned (.bool true) ∧ Done9 w0 w' wb (a.act9 0 q) := by
  obtain ⟨vp, vc, rfl, _⟩ := hv.out
  obtain ⟨vn, hvn⟩ : ∃ n, q.b.length = n := ⟨_, rfl⟩
  rw [hvn] at hv ⊢
  have HV := Lib.hid hv
  have HVN := Lib.hid hvn
  clear hvn hv
  have HP := pick_walk q.kind hq.kind
  rw [hp] at HP
  have HP := Lib.hid HP
  have hB := (st_box h q (.slice vp vn vc))
  change Has [] w0 (w.alloc (.cells #[.int .i64 q.kind, .string q.s, .string q.t, .slice vp vn vc, .int .i64 q.n, .int .i64 q.keep, .int .i64 q.dirs, .int .i64 q.tear] 38)) _ at hB
  have HB := Lib.hid hB
  obtain ⟨w0c, w1c, o0, o1, o2, o3, o4, o5, o6, o7⟩ := st_cells hB
  obtain ⟨_, w0f, _, w1f⟩ := st_cell0 hB
  have HQ := Lib.hid hq
  unfold ptr opV
  clear h hB hp hq
  go_enter Try.func25, Try.ntmps25
  go_wp2_with fail
  generalize hW : (w.alloc (.cells #[.int .i64 q.kind, .string q.s, .string q.t, .slice vp vn vc, .int .i64 q.n, .int .i64 q.keep, .int .i64 q.dirs, .int .i64 q.tear] 38)) = W at *
  generalize w.heap.size = ob at *
  clear hW
  refine (HP.out _).mono ?_
  rintro e w2 ⟨rfl, rfl⟩
  have hvw : BytesX w2 (.slice vp vn vc) q.b := HV.out.kept HB.out.keeps (by simp)
  obtain ⟨bp, bc, w3, hrun, hrow⟩ := copy_row w2 hvw hsz
  have hH3 := HB.out.beside hrow
  rw [HVN.out] at hrun hH3
  have HRUN := Lib.hid hrun
  have H3 := Lib.hid hH3
  have o3a : (w2.alloc (.cells #[] 5)).cell? ⟨ob, 3, none⟩ = some (.slice vp vn vc) := ((Kept.refl [] w2).alloc (.cells #[] 5)).cell o3 (by simp)
  clear hvw hrun hrow hH3
  go_wp2_with (at_builtin; refine wpList_append_run rfl (.tmp 19) (.tmp 21) 27 rfl _ _ rfl rfl HRUN.out ?_)
  obtain ⟨w0d, w1d, p0, p1, p2, p3, p4, p5, p6, p7⟩ := st_cells H3.out.fst
  clear HB HRUN o3a w0c w1c o0 o1 o2 o3 o4 o5 o6 o7 w0f w1f
  go_region_held3 (fun w' => w'.cell? ⟨wb, 0, none⟩ = some (.pointer (some ⟨db, 0, none⟩)) ∧ w'.cell? ⟨wb, 1, none⟩ = some (.pointer (some ⟨rb, 0, none⟩)) ∧ w'.cell? ⟨ob, 0, none⟩ = some (.int .i64 q.kind) ∧ w'.cell? ⟨ob, 1, none⟩ = some (.string q.s) ∧ w'.cell? ⟨ob, 2, none⟩ = some (.string q.t) ∧ w'.cell? ⟨ob, 3, none⟩ = some (.slice vp vn vc) ∧ w'.cell? ⟨ob, 4, none⟩ = some (.int .i64 q.n) ∧ w'.cell? ⟨ob, 5, none⟩ = some (.int .i64 q.keep) ∧ w'.cell? ⟨ob, 6, none⟩ = some (.int .i64 q.dirs) ∧ w'.cell? ⟨ob, 7, none⟩ = some (.int .i64 q.tear))
    (first | exact ⟨w0d, w1d, p0, p1, p2, p3, p4, p5, p6, p7⟩ | exact st_cells H8.out.fst | go_keep)
    (first | (go_at_call 14
              refine (append_st (Has.drewN H3.out 1) HVN.out q.s).mono ?_
              rintro e w8 ⟨rfl, h8⟩
              have H8 := Lib.hid h8
              clear h8))
  obtain ⟨_, hsnd, _⟩ := H8.out.right
  have HN9 : vn ≤ 9223372036854775807 := bytes_len hsnd
  clear hsnd H3 w0d w1d p0 p1 p2 p3 p4 p5 p6 p7
  go_wp2_with fail
  go_loopg [7] vn (fun g iv wr => ∃ i : Nat, i ≤ vn ∧ g = vn - i ∧ iv = .int .i64 i ∧ ∃ xs, Has [] w0 wr ((St wb db rb (a.append q.s.data.toList q.b).2 a (OP ob q (.slice vp vn vc))).sep (.row 5 1 (.slice bp vn bc) vn xs)))
  case atStart => exact ⟨0, Nat.zero_le _, rfl, rfl, _, H8.out⟩
  case round =>
    obtain ⟨i, hi', hkk, rfl, xs, hH⟩ := hrel
    have HKK := Lib.hid hkk
    have HH := Lib.hid hH
    clear hkk
    by_cases hlt : i < vn
    · have d1 : ((i : Int) < (vn : Int)) ↔ True := by simp; omega
      obtain ⟨_, hs, _, _, backs⟩ := hH.right
      obtain ⟨g, u0, rfl, hnc, cg, fg, hset⟩ := bytes_put hs hlt (.int .u8 77)
      have HS := Lib.hid (backs _ _ hset)
      clear hs backs hset hH
      go_wp2_with fail
      go_roundg (vn - (i + 1))
      case measure => rw [HKK.out]; omega
      case rel => exact ⟨i + 1, by omega, rfl, by go_num, _, HS.out⟩
    · have d1 : ((i : Int) < (vn : Int)) ↔ False := by simp; omega
      clear hH
      obtain ⟨w0d, w1d, p0, p1, p2, p3, p4, p5, p6, p7⟩ := st_cells HH.out.fst
      go_wp2_with fail
      go_region_held3 (fun w' => w'.cell? ⟨wb, 0, none⟩ = some (.pointer (some ⟨db, 0, none⟩)) ∧ w'.cell? ⟨wb, 1, none⟩ = some (.pointer (some ⟨rb, 0, none⟩)) ∧ w'.cell? ⟨ob, 0, none⟩ = some (.int .i64 q.kind) ∧ w'.cell? ⟨ob, 1, none⟩ = some (.string q.s) ∧ w'.cell? ⟨ob, 2, none⟩ = some (.string q.t) ∧ w'.cell? ⟨ob, 3, none⟩ = some (.slice vp vn vc) ∧ w'.cell? ⟨ob, 4, none⟩ = some (.int .i64 q.n) ∧ w'.cell? ⟨ob, 5, none⟩ = some (.int .i64 q.keep) ∧ w'.cell? ⟨ob, 6, none⟩ = some (.int .i64 q.dirs) ∧ w'.cell? ⟨ob, 7, none⟩ = some (.int .i64 q.tear))
        (first | exact ⟨w0d, w1d, p0, p1, p2, p3, p4, p5, p6, p7⟩ | exact st_cells H9.out.fst | go_keep)
        (first | (go_at_call 40
                  refine (rappend_st (Has.drewN HH.out 1) q.s HQ.out.s HV.out).mono ?_
                  rintro e w9 ⟨rfl, h9⟩
                  have H9 := Lib.hid h9
                  clear h9))
      go_wp2_with fail
      go_ret
      exact ⟨rfl, db, rb, st_drop H9.out.fst⟩

end Go.Proofs.Ytbankfdgoolbdaa
namespace Go.Proofs.Ytbankfdgoolbdaa
open Go Go.RowKit Go.Lib
set_option linter.unusedVariables false
variable {o : List Nat} {w0 w w' w1 : World} {db rb wb ob : Nat} {a b : ADk} {q : DOp} {v : Value}

theorem rf_ops (h : Has o w0 w (Rf rb a)) : w.cell? ⟨rb, 4, none⟩ = some (.int .i64 a.ops) := by
  obtain ⟨_, L, hL⟩ := rf_open h
  exact (rfl_cell hL 4 (by omega)).1

theorem st_three {X : Part} (h : Has o w0 w (St wb db rb a b X)) : w.cell? ⟨wb, 0, none⟩ = some (.pointer (some ⟨db, 0, none⟩)) ∧ w.cell? ⟨wb, 1, none⟩ = some (.pointer (some ⟨rb, 0, none⟩)) ∧ w.cell? ⟨rb, 4, none⟩ = some (.int .i64 b.ops) := by
  obtain ⟨c0, _, c1, _⟩ := st_cell0 h
  obtain ⟨_, hm, _⟩ := h.mid
  exact ⟨c0, c1, rf_ops hm⟩

theorem rread_in {rb : Nat} {a : ADk} (h : Has o w0 w (Rf rb a)) (u : Nm) (hu : isNm u = true) {x : List UInt8} {e : Int} (hr : a.read u = (x, e)) : Calls Try.prog 41 #[.pointer (some ⟨rb, 0, none⟩), .string ⟨u.toArray⟩] w fun r w' => ∃ v, r = .returned (.tuple #[v, .int .i64 e]) ∧ BytesAt w' v x ∧ Kept [] w w' := by
  have hs : (⟨u.toArray⟩ : ByteArray).size ≤ maxLen := by
    have h1 : u.length ≤ 64 := by unfold isNm at hu; simp at hu; omega
    have h2 : (⟨u.toArray⟩ : ByteArray).size = u.length := rfl
    rw [h2]; have : (64 : Nat) ≤ maxLen := by decide
    omega
  have h1 := rread_walk h ⟨u.toArray⟩ hs
  rw [data_arr, hr] at h1
  exact h1

set_option maxHeartbeats 4000000 in
set_option maxRecDepth 100000 in
theorem alike_walk (h : Has [] w0 w (St wb db rb a a .emp)) : Calls Try.prog 26 #[.pointer (some ⟨wb, 0, none⟩)] w fun e w' => e = .returned (.bool true) ∧ Kept [] w w' := by
  have HOK := Lib.hid (dk_open h.fst).1
  have hlq : a.now.length ≤ 64 := HOK.out.now.len
  obtain ⟨n, hN⟩ : ∃ n, a.now.length = n := ⟨_, rfl⟩
  have hN2 : a.names.length = n := by unfold ADk.names; rw [List.length_map]; exact hN
  have HN2 := Lib.hid hN2
  have HNN := Lib.hid hN
  rw [hN] at hlq
  have HN := Lib.hid (names_in h.fst rfl hN2)
  obtain ⟨c0, c1, c4⟩ := st_three h
  have HH := Lib.hid h
  unfold ptr at HN
  clear hN2 h hN
  go_enter Try.func26, Try.ntmps26
  go_wp2_with fail
  refine HN.out.mono ?_
  rintro e wA ⟨pa, ca, rfl, hca, hn1, k1⟩
  have H1 := Lib.hid (HH.out.quiet k1)
  have K1 := Lib.hid k1
  have HN1 := Lib.hid hn1
  clear HN c0 c1 c4 k1 hn1
  obtain ⟨c0, c1, c4⟩ := st_three H1.out
  obtain ⟨om, hm, _⟩ := H1.out.mid
  have HR := Lib.hid (rnames_walk hm HNN.out)
  unfold ptr at HR
  clear hm
  go_wp2_with fail
  refine HR.out.mono ?_
  rintro e wB ⟨pb, cb, rfl, hn2, k2⟩
  have H2 := Lib.hid (H1.out.quiet k2)
  have K2 := Lib.hid (K1.out.tr k2)
  have hna2 := HN1.out.kept k2 (by simp)
  have HS := Lib.hid (same_walk hna2 hn2 (by rw [HN2.out]; omega))
  have HNA2 := Lib.hid hna2
  clear HR H1 K1 HN1 hn2 k2 hna2 c0 c1 c4
  go_wp2_with fail
  refine HS.out.mono ?_
  rintro e wC ⟨rfl, k3⟩
  have H3 := Lib.hid (H2.out.quiet k3)
  have K3 := Lib.hid (K2.out.tr k3)
  have HNA3 := Lib.hid (HNA2.out.kept k3 (by simp))
  clear HS H2 K2 HNA2 k3
  obtain ⟨c0, c1, c4⟩ := st_three H3.out
  go_wp2_with fail
  go_region_held3 (fun w' => w'.cell? ⟨wb, 0, none⟩ = some (.pointer (some ⟨db, 0, none⟩)) ∧ w'.cell? ⟨wb, 1, none⟩ = some (.pointer (some ⟨rb, 0, none⟩)) ∧ w'.cell? ⟨rb, 4, none⟩ = some (.int .i64 a.ops))
    (first | exact ⟨c0, c1, c4⟩ | exact st_three H4.out | go_keep)
    (first | (go_at_call 22
              refine (ops_walk (Has.drewN H3.out 1).fst).mono ?_
              rintro e w4 ⟨rfl, k4⟩
              have H4 := Lib.hid ((Has.drewN H3.out 1).quiet k4)
              have K4 := Lib.hid ((K3.out.drew).tr k4)
              have HNA4 := Lib.hid ((HNA3.out.kept (Kept.refl [] _).drew (by simp)).kept k4 (by simp))
              clear k4))
  clear H3 K3 HNA3 c0 c1 c4
  obtain ⟨c0, c1, c4⟩ := st_three H4.out
  have k5 : Kept [] w4 (w4.alloc (.cells #[.int .i64 262144, .int .i64 65536, .int .i64 0] 29)) := (Kept.refl _ _).alloc _
  have f0 : (w4.alloc (.cells #[.int .i64 262144, .int .i64 65536, .int .i64 0] 29)).cell? ⟨w4.heap.size, 0, none⟩ = some (.int .i64 262144) := by rw [World.cell?_alloc_mark]; rfl
  have f1 : (w4.alloc (.cells #[.int .i64 262144, .int .i64 65536, .int .i64 0] 29)).cell? ⟨w4.heap.size, 1, none⟩ = some (.int .i64 65536) := by rw [World.cell?_alloc_mark]; rfl
  have f2 : (w4.alloc (.cells #[.int .i64 262144, .int .i64 65536, .int .i64 0] 29)).cell? ⟨w4.heap.size, 2, none⟩ = some (.int .i64 0) := by rw [World.cell?_alloc_mark]; rfl
  have H5 := Lib.hid (H4.out.quiet k5)
  have K5 := Lib.hid (K4.out.tr k5)
  have HNA5 := Lib.hid (HNA4.out.kept k5 (by simp))
  clear H4 K4 HNA4 k5 c0 c1 c4
  go_wp2_with fail
  generalize hW : (w4.alloc (.cells #[.int .i64 262144, .int .i64 65536, .int .i64 0] 29)) = w5 at *
  generalize w4.heap.size = fb at *
  clear hW
  obtain ⟨c0, c1, c4⟩ := st_three H5.out
  go_region_held3 (fun w' => w'.cell? ⟨wb, 0, none⟩ = some (.pointer (some ⟨db, 0, none⟩)) ∧ w'.cell? ⟨wb, 1, none⟩ = some (.pointer (some ⟨rb, 0, none⟩)) ∧ w'.cell? ⟨fb, 0, none⟩ = some (.int .i64 262144) ∧ w'.cell? ⟨fb, 1, none⟩ = some (.int .i64 65536) ∧ w'.cell? ⟨fb, 2, none⟩ = some (.int .i64 0))
    (first | exact ⟨c0, c1, f0, f1, f2⟩ | exact ⟨(st_three H6.out).1, (st_three H6.out).2.1, HK6.out.cell f0 (by simp), HK6.out.cell f1 (by simp), HK6.out.cell f2 (by simp)⟩ | go_keep)
    (first | (go_at_call 17
              refine (crash_in (Has.drewN H5.out 1).fst 262144 65536 0).mono ?_
              rintro e w6 ⟨d6, rfl, h6⟩
              have HK6 := Lib.hid ((Kept.refl [] w5).drew.tr h6.keeps)
              have H6 := Lib.hid (H5.out.quiet HK6.out)
              have HD6 := Lib.hid (h6.from (Has.drewN H5.out 1).keeps)
              clear h6))
  have g0 := HK6.out.cell f0 (by simp)
  have g1 := HK6.out.cell f1 (by simp)
  have g2 := HK6.out.cell f2 (by simp)
  clear c0 c1 c4 H5 f0 f1 f2
  have HNA6 := Lib.hid (HNA5.out.kept HK6.out (by simp))
  have K6 := Lib.hid (K5.out.tr HK6.out)
  obtain ⟨c0, c1, c4⟩ := st_three H6.out
  go_upto_region 7 with fail
  go_region_held3 (fun w' => w'.cell? ⟨wb, 0, none⟩ = some (.pointer (some ⟨db, 0, none⟩)) ∧ w'.cell? ⟨wb, 1, none⟩ = some (.pointer (some ⟨rb, 0, none⟩)) ∧ w'.cell? ⟨fb, 0, none⟩ = some (.int .i64 262144) ∧ w'.cell? ⟨fb, 1, none⟩ = some (.int .i64 65536) ∧ w'.cell? ⟨fb, 2, none⟩ = some (.int .i64 0))
    (first | exact ⟨c0, c1, g0, g1, g2⟩ | exact ⟨(st_three H7.out).1, (st_three H7.out).2.1, HK7.out.cell g0 (by simp), HK7.out.cell g1 (by simp), HK7.out.cell g2 (by simp)⟩ | go_keep)
    (first | (go_at_call 49
              obtain ⟨om, hm, _⟩ := (Has.drewN H6.out 1).mid
              refine (rcrash_walk hm 262144 65536 0 (by unfold Rng; omega)).mono ?_
              rintro e w7 ⟨r7, rfl, h7⟩
              have HK7 := Lib.hid ((Kept.refl [] w6).drew.tr h7.keeps)
              have H7 := Lib.hid (H6.out.quiet HK7.out)
              have HR7 := Lib.hid (h7.from (Has.drewN H6.out 1).keeps)
              unfold ptr
              clear h7))
  have HD7 := Lib.hid (HD6.out.quiet HK7.out)
  have K7 := Lib.hid (K6.out.tr HK7.out)
  have HNA7 := Lib.hid (HNA6.out.kept HK7.out (by simp))
  clear c0 c1 c4 g0 g1 g2 HK6 HK7 H6 HD6 HNA5 HNA6 K5 K6 H7
  go_wp2_with fail
  go_loopg [8] n (fun kk iv wr => ∃ i : Nat, i ≤ n ∧ kk = n - i ∧ iv = .int .i64 i ∧ Kept [] w7 wr)
  case atStart => exact ⟨0, Nat.zero_le _, rfl, rfl, Kept.refl _ _⟩
  case round =>
    obtain ⟨i, hi', hkk, rfl, hK⟩ := hrel
    have HKK := Lib.hid hkk
    have HK := Lib.hid hK
    clear hkk
    by_cases hlt : i < n
    · have d1 : ((i : Int) < (n : Int)) ↔ True := by simp; omega
      have hil : i < a.now.length := by have := HNN.out; omega
      have hnm : isNm (nmAt a.now i) = true := HOK.out.now.nms (a.now.getD i ([], 0)) (by rw [List.getD_eq_getElem?_getD, List.getElem?_eq_getElem hil]; exact List.getElem_mem hil)
      have HNM := Lib.hid hnm
      obtain ⟨x, xe, hx⟩ : ∃ x xe, (a.crash 262144 65536 0).read (nmAt a.now i) = (x, xe) := ⟨_, _, rfl⟩
      have hNr := HNA7.out.kept hK (by simp)
      obtain ⟨_, _, e9, _, hc9⟩ := hNr
      obtain ⟨g, e8, _, c8⟩ := hc9 i _ (nm_getD hil)
      have e10 : pa = some ⟨g, 0, none⟩ := by injection e9 with e11 _ _; rw [e11]; exact e8
      subst e10
      have HX := Lib.hid (read_in (HD7.out.quiet hK) (nmAt a.now i) hx)
      have HX2 := Lib.hid hx
      unfold ptr at HX
      have hd : decide (i < n) = true := decide_eq_true hlt
      have hda : i < ca := by omega
      have HC8 := Lib.hid c8
      clear hc9 hK e9 e8 hx hnm hil
      go_wp2_with fail
      refine HX.out.mono ?_
      rintro e w11 ⟨v1, rfl, hb1, k11⟩
      have HK11 := Lib.hid (HK.out.tr k11)
      have c8 := k11.cell HC8.out (by simp)
      have HY := Lib.hid (rread_in (HR7.out.quiet HK11.out) (nmAt a.now i) HNM.out HX2.out)
      have HB1 := Lib.hid hb1
      clear hb1 k11 HX
      go_wp2_with fail
      refine HY.out.mono ?_
      rintro e w12 ⟨v2, rfl, hb2, k12⟩
      have t1 := conv_strX (HB1.out.x.kept k12 (by simp))
      have t2 := conv_str hb2
      have HK12 := Lib.hid (HK11.out.tr k12)
      clear hb2 k12 HY
      go_wp2_with fail
      go_roundg (n - (i + 1))
      case measure => rw [HKK.out]; omega
      case rel => exact ⟨i + 1, by omega, rfl, by go_num, HK12.out⟩
    · have d1 : ((i : Int) < (n : Int)) ↔ False := by simp; omega
      clear hK
      go_wp2_with fail
      go_ret
      exact ⟨rfl, K7.out.tr HK.out⟩
end Go.Proofs.Ytbankfdgoolbdaa
