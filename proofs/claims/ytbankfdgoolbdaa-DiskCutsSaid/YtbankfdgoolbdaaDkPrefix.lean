/- What DiskPrefix and DiskCuts say of scripts, told plainly. Nothing is claimed of a program here. -/
import Derived.Test.YtbankfdgoolbdaaDkPlay
namespace Go.Proofs.Ytbankfdgoolbdaa
open Go
set_option linter.unusedVariables false
variable {a : ADk} {l : Dir}

theorem numbered_names (l : Dir) : (numbered l).map (·.1) = l.map (·.1) := numbered_map l

theorem crash_names {dirs : Int} (hl : runLog a.old (a.log.take dirs.toNat) = some l) (keep tear : Int) : (a.crash keep dirs tear).names = l.map (·.1) := by
  rw [crash_eq dirs hl]
  exact numbered_map l

theorem nm_getD {l : Dir} {i : Nat} (h : i < l.length) : (l.map (·.1))[i]? = some (nmAt l i) := by
  unfold nmAt
  rw [List.getElem?_map, List.getD_eq_getElem?_getD, List.getElem?_eq_getElem h]
  rfl

theorem left_prefix (x : AFile) {less more : Int} (h : less ≤ more) : ∃ z, (x.left more 0).b = (x.left less 0).b ++ z := by
  have h1 : ∀ k, (x.left k 0).b = x.b.take (x.sy + clamp k (x.b.length - x.sy)) := by
    intro k
    unfold AFile.left
    simp only [show ∀ n, clamp 0 n = 0 from fun n => by unfold clamp; simp, Nat.sub_zero]
    rw [List.drop_of_length_le (by rw [List.length_take]; omega)]
    simp
  rw [h1, h1]
  have hm : clamp less (x.b.length - x.sy) ≤ clamp more (x.b.length - x.sy) := by unfold clamp; omega
  refine ⟨(x.b.drop (x.sy + clamp less (x.b.length - x.sy))).take (clamp more (x.b.length - x.sy) - clamp less (x.b.length - x.sy)), ?_⟩
  rw [← List.take_add]
  congr 1
  omega

theorem left_whole (x : AFile) (hx : x.sy ≤ x.b.length) (hl : x.b.length ≤ 262144) : (x.left 262144 0).b = x.b := by
  have h : clamp 262144 (x.b.length - x.sy) = x.b.length - x.sy := by unfold clamp; omega
  have h0 : ∀ n, clamp 0 n = 0 := fun n => by unfold clamp; simp
  unfold AFile.left
  simp only [h, h0, Nat.sub_zero]
  rw [show x.sy + (x.b.length - x.sy) = x.b.length by omega, List.take_length, List.drop_length]
  simp

/-- What both disks of DiskPrefix hold under a name. -/
theorem prefix_reads {a : ADk} (hok : a.Ok) (dirs : Int) {less more : Int} (h : less ≤ more) : ∃ l : Dir, DirOk a l ∧ (a.crash less dirs 0).names = l.map (·.1) ∧ (a.crash more dirs 0).names = l.map (·.1) ∧
    ∀ j, j < l.length → ∃ x y : List UInt8, (a.crash less dirs 0).read (nmAt l j) = (x, 0) ∧ (a.crash more dirs 0).read (nmAt l j) = (y, 0) ∧ (∃ z, y = x ++ z) ∧ y.length ≤ 262144 := by
  obtain ⟨l, hl, hd⟩ := hok.prefix dirs.toNat
  refine ⟨l, hd, crash_names hl _ _, crash_names hl _ _, fun j hj => ⟨_, _, crash_read hl hd less 0 hj, crash_read hl hd more 0 hj, left_prefix _ h, ?_⟩⟩
  have h1 := a.file_ok hok (l.getD j ([], 0)).2
  have h2 := left_len (a.file (l.getD j ([], 0)).2) h1.2 more 0
  omega

theorem whole_reads {a : ADk} (hok : a.Ok) (hoff : a.off = false) : (a.crash 262144 65536 0).names = a.now.map (·.1) ∧ a.names = a.now.map (·.1) ∧
    ∀ j, j < a.now.length → ∃ x : List UInt8, a.read (nmAt a.now j) = (x, 0) ∧ (a.crash 262144 65536 0).read (nmAt a.now j) = (x, 0) ∧ x.length ≤ 262144 := by
  have hl : runLog a.old (a.log.take (65536 : Int).toNat) = some a.now := by
    rw [List.take_of_length_le (by have := hok.loglen; have := hok.ops; show a.log.length ≤ 65536; omega)]
    exact hok.log
  have hd := hok.now
  refine ⟨crash_names hl _ _, rfl, fun j hj => ?_⟩
  have h1 := a.file_ok hok (a.now.getD j ([], 0)).2
  have h2 := crash_read hl hd 262144 0 hj
  rw [left_whole _ h1.2 h1.1] at h2
  refine ⟨_, ?_, h2, h1.1⟩
  unfold ADk.read
  have hmem : a.now.getD j ([], 0) ∈ a.now := by rw [List.getD_eq_getElem?_getD, List.getElem?_eq_getElem hj]; exact List.getElem_mem hj
  rw [hoff]
  simp only [hd.nms _ hmem, nmAt]
  rw [hd.rise.find hmem]
  rfl

/-! ### DiskCuts -/
/-- The same but for the power. -/
structure Alike (a c : ADk) : Prop where
  fs : a.fs = c.fs
  now : a.now = c.now
  old : a.old = c.old
  log : a.log = c.log
  ops : a.ops = c.ops

theorem Alike.crash {a c : ADk} (h : Alike a c) (k d t : Int) : a.crash k d t = c.crash k d t := by
  obtain ⟨f1, n1, o1, l1, p1, c1, b1⟩ := a
  obtain ⟨f2, n2, o2, l2, p2, c2, b2⟩ := c
  obtain ⟨rfl, rfl, rfl, rfl, rfl⟩ := h
  rfl

/-- The power of a goes at `at`, that of c never. -/
structure CutsAt (at_ : Int) (a c : ADk) : Prop where
  like : Alike a c
  cut : a.cut = at_
  le : (a.ops : Int) ≤ at_
  off : a.off = true → (a.ops : Int) = at_

theorem CutsAt.powered {at_ : Int} {a c : ADk} (h : CutsAt at_ a c) (h0 : 0 ≤ at_) (hlt : (a.ops : Int) < at_) : a.powered = a ∧ a.off = false := by
  have ho : a.off = false := by
    cases hb : a.off with
    | false => rfl
    | true => have := h.off hb; omega
  refine ⟨?_, ho⟩
  unfold ADk.powered
  have : (a.off || (decide (0 ≤ a.cut) && decide (a.cut ≤ a.ops))) = a.off := by
    rw [ho, h.cut, show decide (at_ ≤ (a.ops : Int)) = false by simp; omega]; simp
  rw [this]

/-- The power is gone. -/
theorem CutsAt.dark {at_ : Int} {a c : ADk} (h : CutsAt at_ a c) (h0 : 0 ≤ at_) (hge : at_ ≤ (a.ops : Int)) (there : Bool) (l : List Nm) : a.powered.bad there l = 24 ∧ CutsAt at_ a.powered c ∧ a.powered.off = true := by
  have ho : a.powered.off = true := by
    unfold ADk.powered
    simp only [h.cut, decide_eq_true h0, decide_eq_true hge]
    simp
  refine ⟨?_, ⟨⟨h.like.fs, h.like.now, h.like.old, h.like.log, h.like.ops⟩, h.cut, h.le, fun _ => by have := h.le; show (a.ops : Int) = at_; omega⟩, ho⟩
  unfold ADk.bad
  rw [if_pos ho]

theorem CutsAt.after {at_ : Int} {a c : ADk} (h : CutsAt at_ a c) (h0 : 0 ≤ at_) (hge : at_ ≤ (a.ops : Int)) (o : DOp) : CutsAt at_ (a.act o) c := by
  have hd : ∀ there l, a.powered.bad there l ≠ 0 := fun there l => by rw [(h.dark h0 hge there l).1]; decide
  have hp := (h.dark h0 hge false []).2.1
  unfold ADk.act ADk.actK
  split
  · unfold ADk.append; simp only; rw [if_pos (hd _ _)]; exact hp
  · unfold ADk.sync; simp only; rw [if_pos (hd _ _)]; exact hp
  · unfold ADk.rename; simp only; rw [if_pos (hd _ _)]; exact hp
  · unfold ADk.delete; simp only; rw [if_pos (hd _ _)]; exact hp
  · unfold ADk.syncDir; simp only; rw [if_pos (hd _ _)]; exact hp
  · exact h

theorem CutsAt.ahead {at_ : Int} {a c : ADk} (h : CutsAt at_ a c) (hc : c.Lit) (h0 : 0 ≤ at_) (hlt : (a.ops : Int) < at_) (o : DOp) : CutsAt at_ (a.act o) (c.act o) := by
  obtain ⟨hpa, hoa⟩ := h.powered h0 hlt
  have hpc := hc.powered
  have hcut := h.cut
  have hoc := hc.1
  obtain ⟨f1, n1, o1, l1, p1, c1, b1⟩ := a
  obtain ⟨f2, n2, o2, l2, p2, c2, b2⟩ := c
  obtain ⟨⟨e1, e2, e3, e4, e5⟩, _, _, _⟩ := h
  simp only at e1 e2 e3 e4 e5 hcut hoa hoc hlt
  subst e1 e2 e3 e4 e5 hcut hoa hoc
  have hbad : ∀ there l, ADk.bad ⟨f1, n1, o1, l1, p1, c1, false⟩ there l = ADk.bad ⟨f1, n1, o1, l1, p1, c2, false⟩ there l := fun _ _ => rfl
  have hfile : ∀ i, ADk.file ⟨f1, n1, o1, l1, p1, c1, false⟩ i = ADk.file ⟨f1, n1, o1, l1, p1, c2, false⟩ i := fun _ => rfl
  have hle : (p1 : Int) ≤ c1 := by omega
  unfold ADk.act ADk.actK
  split
  · unfold ADk.append
    simp only [hpa, hpc, hbad, hfile]
    split
    · exact ⟨⟨rfl, rfl, rfl, rfl, rfl⟩, rfl, hle, fun e => by cases e⟩
    · split
      · split
        · exact ⟨⟨rfl, rfl, rfl, rfl, rfl⟩, rfl, hle, fun e => by cases e⟩
        · exact ⟨⟨rfl, rfl, rfl, rfl, rfl⟩, rfl, by simp only [ADk.did, ADk.change]; omega, fun e => by cases e⟩
      · split
        · exact ⟨⟨rfl, rfl, rfl, rfl, rfl⟩, rfl, hle, fun e => by cases e⟩
        · exact ⟨⟨rfl, rfl, rfl, rfl, rfl⟩, rfl, by simp only [ADk.did]; omega, fun e => by cases e⟩
  · unfold ADk.sync
    simp only [hpa, hpc, hbad]
    split
    · exact ⟨⟨rfl, rfl, rfl, rfl, rfl⟩, rfl, hle, fun e => by cases e⟩
    · split
      · exact ⟨⟨rfl, rfl, rfl, rfl, rfl⟩, rfl, hle, fun e => by cases e⟩
      · exact ⟨⟨rfl, rfl, rfl, rfl, rfl⟩, rfl, by simp only [ADk.did]; omega, fun e => by cases e⟩
  · unfold ADk.rename
    simp only [hpa, hpc, hbad]
    split
    · exact ⟨⟨rfl, rfl, rfl, rfl, rfl⟩, rfl, hle, fun e => by cases e⟩
    · exact ⟨⟨rfl, rfl, rfl, rfl, rfl⟩, rfl, by simp only [ADk.did, ADk.change]; omega, fun e => by cases e⟩
  · unfold ADk.delete
    simp only [hpa, hpc, hbad]
    split
    · exact ⟨⟨rfl, rfl, rfl, rfl, rfl⟩, rfl, hle, fun e => by cases e⟩
    · exact ⟨⟨rfl, rfl, rfl, rfl, rfl⟩, rfl, by simp only [ADk.did, ADk.change]; omega, fun e => by cases e⟩
  · unfold ADk.syncDir
    simp only [hpa, hpc, hbad]
    split
    · exact ⟨⟨rfl, rfl, rfl, rfl, rfl⟩, rfl, hle, fun e => by cases e⟩
    · exact ⟨⟨rfl, rfl, rfl, rfl, rfl⟩, rfl, by simp only [ADk.did]; omega, fun e => by cases e⟩
  · exact ⟨⟨rfl, rfl, rfl, rfl, rfl⟩, rfl, hle, fun e => by cases e⟩

/-- How far the second disk of DiskCuts is played: the operations till those that are counted come to `at`. -/
def stopsAt (at_ : Int) (f : Nat → DOp) (i : Nat) : Prop := ∀ j, j < i → ((playN f j ADk.new).ops : Int) < at_

theorem cuts_same {at_ : Int} (h0 : 0 ≤ at_) (f : Nat → DOp) : ∀ {i : Nat}, stopsAt at_ f i → CutsAt at_ (playN f i (ADk.new.cutAt at_)) (playN f i ADk.new)
  | 0, _ => ⟨⟨rfl, rfl, rfl, rfl, rfl⟩, rfl, h0, fun e => by cases e⟩
  | i + 1, h => by
    have h1 := cuts_same h0 f (i := i) fun j hj => h j (by omega)
    refine h1.ahead (playN_lit new_lit f i).1 h0 ?_ (f i)
    have := h i (by omega)
    rw [h1.like.ops]
    exact this

theorem cuts_more {at_ : Int} (h0 : 0 ≤ at_) (f : Nat → DOp) {i : Nat} (h : stopsAt at_ f i) (hge : at_ ≤ ((playN f i ADk.new).ops : Int)) : ∀ m, CutsAt at_ (playN f (i + m) (ADk.new.cutAt at_)) (playN f i ADk.new)
  | 0 => cuts_same h0 f h
  | m + 1 => by
    have h1 := cuts_more h0 f h hge m
    exact h1.after h0 (by rw [h1.like.ops]; exact hge) (f (i + m))

end Go.Proofs.Ytbankfdgoolbdaa
