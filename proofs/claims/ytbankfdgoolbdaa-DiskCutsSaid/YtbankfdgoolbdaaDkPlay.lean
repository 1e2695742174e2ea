/- Scripts told plainly, and what DiskLasts, DiskPrefix and DiskCuts say of them. Nothing is claimed of a program here. -/
import Derived.Test.YtbankfdgoolbdaaDkCrR
namespace Go.Proofs.Ytbankfdgoolbdaa
open Go
set_option linter.unusedVariables false

/-- An operation of a script. -/
structure DOp where
  kind : Int
  s : ByteArray
  t : ByteArray
  b : List UInt8
  n : Int
  keep : Int
  dirs : Int
  tear : Int

def pickN (c : Int) (n : Nat) : Nat := ((if c < 0 then -(c + 1) else c) % (n : Int)).toNat

def ADk.actK (a : ADk) (p : Nat) (o : DOp) : ADk :=
  match p with
  | 0 => (a.append o.s.data.toList o.b).2
  | 2 => (a.sync o.s.data.toList).2
  | 3 => (a.rename o.s.data.toList o.t.data.toList).2
  | 4 => (a.delete o.s.data.toList).2
  | 5 => a.syncDir.2
  | _ => a

def ADk.act (a : ADk) (o : DOp) : ADk := a.actK (pickN o.kind 9) o

/-- The first n operations of a script. -/
def playN (f : Nat → DOp) : Nat → ADk → ADk
  | 0, a => a
  | n + 1, a => (playN f n a).act (f n)

theorem ADk.act_ok {a : ADk} (h : a.Ok) (o : DOp) : (a.act o).Ok := by
  unfold ADk.act ADk.actK
  split
  · exact a.append_ok h _ _
  · exact a.sync_ok h _
  · exact a.rename_ok h _ _
  · exact a.delete_ok h _
  · exact a.syncDir_ok h
  · exact h

theorem playN_ok {a : ADk} (h : a.Ok) (f : Nat → DOp) : ∀ n, (playN f n a).Ok
  | 0 => h
  | n + 1 => (playN f n a).act_ok (playN_ok h f n) _

/-- The power is on, and will be. -/
def ADk.Lit (a : ADk) : Prop := a.off = false ∧ a.cut < 0

theorem ADk.Lit.powered {a : ADk} (h : a.Lit) : a.powered = a := by
  obtain ⟨h1, h2⟩ := h
  unfold ADk.powered
  have : (a.off || (decide (0 ≤ a.cut) && decide (a.cut ≤ a.ops))) = a.off := by
    rw [show decide (0 ≤ a.cut) = false by simp; omega]; simp
  rw [this]

/-- What an operation changes: at most one more operation is counted; the power stays on. -/
theorem ADk.act_lit {a : ADk} (h : a.Lit) (o : DOp) : (a.act o).Lit ∧ (a.act o).ops ≤ a.ops + 1 := by
  have hp := h.powered
  unfold ADk.act ADk.actK
  split
  · unfold ADk.append
    simp only [hp]
    split
    · exact ⟨h, Nat.le_succ _⟩
    · split
      · split
        · exact ⟨h, Nat.le_succ _⟩
        · exact ⟨h, Nat.le_refl _⟩
      · split
        · exact ⟨h, Nat.le_succ _⟩
        · exact ⟨h, Nat.le_refl _⟩
  · unfold ADk.sync
    simp only [hp]
    split
    · exact ⟨h, Nat.le_succ _⟩
    · split
      · exact ⟨h, Nat.le_succ _⟩
      · exact ⟨h, Nat.le_refl _⟩
  · unfold ADk.rename
    simp only [hp]
    split
    · exact ⟨h, Nat.le_succ _⟩
    · exact ⟨h, Nat.le_refl _⟩
  · unfold ADk.delete
    simp only [hp]
    split
    · exact ⟨h, Nat.le_succ _⟩
    · exact ⟨h, Nat.le_refl _⟩
  · unfold ADk.syncDir
    simp only [hp]
    split
    · exact ⟨h, Nat.le_succ _⟩
    · exact ⟨h, Nat.le_refl _⟩
  · exact ⟨h, Nat.le_succ _⟩

theorem playN_lit {a : ADk} (h : a.Lit) (f : Nat → DOp) : ∀ n, (playN f n a).Lit ∧ (playN f n a).ops ≤ a.ops + n
  | 0 => ⟨h, Nat.le_refl _⟩
  | n + 1 => by
    have h1 := playN_lit h f n
    have h2 := (playN f n a).act_lit h1.1 (f n)
    exact ⟨h2.1, by have := h1.2; have := h2.2; show ((playN f n a).act (f n)).ops ≤ _; omega⟩

theorem new_lit : ADk.new.Lit := ⟨rfl, by decide⟩

/-! ### find, put, del -/
section
variable {α : Type}
theorem find_del_same (l : List (Nm × α)) (s : Nm) : alFind (alDel l s) s = none := by
  unfold alFind alDel
  rw [Option.map_eq_none_iff, List.find?_eq_none]
  intro p hp
  have := (List.mem_filter.1 hp).2
  simpa using this
theorem find_del_ne (l : List (Nm × α)) {s t : Nm} (h : t ≠ s) : alFind (alDel l s) t = alFind l t := by
  unfold alFind alDel
  congr 1
  induction l with
  | nil => rfl
  | cons x r ih =>
    rw [List.filter_cons]
    by_cases hx : x.1 = s
    · rw [if_neg (by simp [hx]), ih, List.find?_cons]
      have : (x.1 == t) = false := by rw [hx]; simpa using fun e => h e.symm
      rw [this]
    · rw [if_pos (by simpa using hx), List.find?_cons, List.find?_cons, ih]
theorem find_ins (x : Nm × α) (l : List (Nm × α)) (hx : ∀ p ∈ l, p.1 ≠ x.1) (t : Nm) : alFind (alIns x l) t = if x.1 = t then some x.2 else alFind l t := by
  induction l with
  | nil =>
    unfold alIns alFind
    rw [List.find?_cons]
    by_cases e : x.1 = t
    · rw [if_pos e, show (x.1 == t) = true by simpa using e]; rfl
    · rw [if_neg e, show (x.1 == t) = false by simpa using e]
  | cons y r ih =>
    have ih := ih fun p hp => hx p (by simp [hp])
    unfold alIns
    split
    · unfold alFind
      rw [List.find?_cons]
      by_cases e : x.1 = t
      · rw [if_pos e, show (x.1 == t) = true by simpa using e]; rfl
      · rw [if_neg e, show (x.1 == t) = false by simpa using e]
    · have hy := hx y (by simp)
      unfold alFind at ih ⊢
      rw [List.find?_cons, List.find?_cons]
      by_cases e : y.1 = t
      · rw [show (y.1 == t) = true by simpa using e]
        have : ¬ x.1 = t := fun e' => hy (e.trans e'.symm)
        rw [if_neg this]
      · rw [show (y.1 == t) = false by simpa using e]
        exact ih
theorem find_put_same (l : List (Nm × α)) (s : Nm) (v : α) : alFind (alPut l s v) s = some v := by
  unfold alPut
  rw [find_ins _ _ (fun p hp => by simpa [alDel] using (List.mem_filter.1 hp).2), if_pos rfl]
theorem find_put_ne (l : List (Nm × α)) {s t : Nm} (v : α) (h : t ≠ s) : alFind (alPut l s v) t = alFind l t := by
  unfold alPut
  rw [find_ins _ _ (fun p hp => by simpa [alDel] using (List.mem_filter.1 hp).2), if_neg fun e => h e.symm, find_del_ne _ h]
end

/-- A change that doesn't speak of a name. -/
def Chg.apart (nm : Nm) : Chg → Prop
  | .mk s _ => s ≠ nm
  | .del s => s ≠ nm
  | .ren s t => s ≠ nm ∧ t ≠ nm

theorem on_apart {c : Chg} {l l' : Dir} {nm : Nm} (h : c.on l = some l') (hc : c.apart nm) : alFind l' nm = alFind l nm := by
  cases c with
  | mk s i =>
    simp only [Chg.on] at h
    split at h
    · cases h; exact find_put_ne _ _ (Ne.symm hc)
    · cases h
  | del s => cases h; exact find_del_ne _ (Ne.symm hc)
  | ren s t =>
    simp only [Chg.on, Option.map_eq_some_iff] at h
    obtain ⟨i, _, rfl⟩ := h
    rw [find_put_ne _ _ (Ne.symm hc.2), find_del_ne _ (Ne.symm hc.1)]

theorem runLog_apart {nm : Nm} : ∀ (L : List Chg) (l l' : Dir), (∀ c ∈ L, c.apart nm) → runLog l L = some l' → alFind l' nm = alFind l nm
  | [], l, l', _, h => by cases h; rfl
  | c :: r, l, l', hc, h => by
    simp only [runLog, Option.bind_eq_some_iff] at h
    obtain ⟨m, h1, h2⟩ := h
    rw [runLog_apart r m l' (fun c' hc' => hc c' (by simp [hc'])) h2, on_apart h1 (hc c (by simp))]

/-- A name and its file stay, whatever is lost. -/
structure Lasting (a : ADk) (nm : Nm) (b : List UInt8) (i : Nat) : Prop where
  old : alFind a.old nm = some i
  now : alFind a.now nm = some i
  file : a.file i = ⟨b, b.length⟩
  log : ∀ c ∈ a.log, c.apart nm
  alone : ∀ p ∈ a.now, p.2 = i → p.1 = nm

theorem file_set {a : ADk} {i j : Nat} {x : AFile} (h : i ≠ j) : ({ a with fs := a.fs.set i x } : ADk).file j = a.file j := by
  unfold ADk.file
  rw [List.getD_eq_getElem?_getD, List.getD_eq_getElem?_getD, List.getElem?_set, if_neg h]

theorem Lasting.change {a : ADk} {nm : Nm} {b : List UInt8} {i : Nat} (h : Lasting a nm b i) {c : Chg} {l' : Dir} (hl : c.on a.now = some l') (hc : c.apart nm) (hi : ∀ s j, c = .mk s j → j ≠ i) : Lasting (a.change c) nm b i := by
  refine ⟨h.old, ?_, h.file, ?_, ?_⟩
  · show alFind ((c.on a.now).getD a.now) nm = _
    rw [hl]
    exact (on_apart hl hc).trans h.now
  · intro c' hc'
    rcases List.mem_append.1 hc' with h' | h'
    · exact h.log c' h'
    · simp at h'; subst h'; exact hc
  · intro p hp
    change p ∈ (c.on a.now).getD a.now at hp
    rw [hl] at hp
    change p ∈ l' at hp
    cases c with
    | mk s j =>
      simp only [Chg.on] at hl
      split at hl
      · cases hl
        rcases mem_alPut.1 hp with rfl | ⟨hp, _⟩
        · intro e; exact absurd e (hi s j rfl)
        · exact h.alone p hp
      · cases hl
    | del s => cases hl; exact h.alone p (List.mem_filter.1 hp).1
    | ren s t =>
      simp only [Chg.on, Option.map_eq_some_iff] at hl
      obtain ⟨j, hj, rfl⟩ := hl
      rcases mem_alPut.1 hp with rfl | ⟨hp, _⟩
      · intro e
        have e : j = i := e
        subst e
        exact absurd (h.alone _ (alFind_mem hj) rfl) hc.1
      · exact h.alone p (List.mem_filter.1 hp).1

theorem Lasting.did {a : ADk} {nm : Nm} {b : List UInt8} {i : Nat} (h : Lasting a nm b i) : Lasting a.did nm b i := ⟨h.old, h.now, h.file, h.log, h.alone⟩

theorem Lasting.set {a : ADk} {nm : Nm} {b : List UInt8} {i j : Nat} {x : AFile} (h : Lasting a nm b i) (hj : j ≠ i) : Lasting { a with fs := a.fs.set j x } nm b i :=
  ⟨h.old, h.now, by rw [file_set hj]; exact h.file, h.log, h.alone⟩

theorem Lasting.more {a : ADk} {nm : Nm} {b : List UInt8} {i : Nat} {x : AFile} (h : Lasting a nm b i) (hi : i < a.fs.length) : Lasting { a with fs := a.fs ++ [x] } nm b i := by
  refine ⟨h.old, h.now, ?_, h.log, h.alone⟩
  have := h.file
  unfold ADk.file at this ⊢
  rw [List.getD_eq_getElem?_getD] at this ⊢
  rw [List.getElem?_append_left hi]
  exact this

theorem Lasting.lt {a : ADk} {nm : Nm} {b : List UInt8} {i : Nat} (h : Lasting a nm b i) (hok : a.Ok) : i < a.fs.length := hok.now.ids _ (alFind_mem h.now)

/-- Whatever is done to other names. -/
theorem Lasting.act {a : ADk} {nm : Nm} {b : List UInt8} {i : Nat} (h : Lasting a nm b i) (hok : a.Ok) (hlit : a.Lit) (o : DOp) (hs : o.s.data.toList ≠ nm) (ht : o.t.data.toList ≠ nm) : Lasting (a.act o) nm b i := by
  have hp := hlit.powered
  have hlt := h.lt hok
  have other : ∀ {s j}, s ≠ nm → alFind a.now s = some j → j ≠ i := fun hs hj e => hs (h.alone _ (alFind_mem hj) e)
  unfold ADk.act ADk.actK
  split
  · unfold ADk.append
    simp only [hp]
    split
    · exact h
    · split
      · rename_i hn
        split
        · exact h
        · rename_i hc
          have h1 := h.more (x := AFile.mk o.b 0) hlt
          refine (h1.change (c := .mk o.s.data.toList a.fs.length) (l' := alPut a.now o.s.data.toList a.fs.length) ?_ hs (fun s j e => by cases e; omega)).did
          show (if (alFind a.now o.s.data.toList).isNone && decide (a.now.length < 64) then _ else _) = _
          rw [hn, if_pos (by simp; omega)]
      · rename_i j hj
        split
        · exact h
        · exact (h.set (other hs hj)).did
  · unfold ADk.sync
    simp only [hp]
    split
    · exact h
    · split
      · exact h
      · rename_i j hj
        exact (h.set (other hs hj)).did
  · unfold ADk.rename
    simp only [hp]
    split
    · exact h
    · rename_i hb
      obtain ⟨_, _, h3, _⟩ := bad_off (Classical.not_not.1 hb)
      obtain ⟨j, hj⟩ := Option.isSome_iff_exists.1 (h3 rfl)
      simp only [List.headD_cons] at hj
      exact (h.change (c := .ren o.s.data.toList o.t.data.toList) (l' := alPut (alDel a.now o.s.data.toList) o.t.data.toList j) (by simp only [Chg.on, hj, Option.map_some]) ⟨hs, ht⟩ (fun _ _ e => by cases e)).did
  · unfold ADk.delete
    simp only [hp]
    split
    · exact h
    · exact (h.change (c := .del o.s.data.toList) (l' := alDel a.now o.s.data.toList) rfl hs (fun _ _ e => by cases e)).did
  · unfold ADk.syncDir
    simp only [hp]
    split
    · exact h
    · exact ⟨h.now, h.now, h.file, by simp [ADk.did], h.alone⟩
  · exact h

/-! ### what a crash leaves, read -/
theorem zip_find {l : Dir} (hr : Rising l) {j : Nat} (hj : j < l.length) : alFind ((l.map (·.1)).zipIdx) (nmAt l j) = some j :=
  (numbered_rising hr).find (List.mem_of_getElem? (numbered_get hj))

theorem crash_eq {a : ADk} {l : Dir} (dirs : Int) (hl : runLog a.old (a.log.take dirs.toNat) = some l) (keep tear : Int) : a.crash keep dirs tear = ⟨l.map fun p => (a.file p.2).left keep tear, numbered l, numbered l, [], 0, -1, false⟩ := by
  unfold ADk.crash numbered
  rw [hl]
  rfl

theorem crash_read {a : ADk} {l : Dir} {dirs : Int} (hl : runLog a.old (a.log.take dirs.toNat) = some l) (hd : DirOk a l) (keep tear : Int) {j : Nat} (hj : j < l.length) :
    (a.crash keep dirs tear).read (nmAt l j) = (((a.file (l.getD j ([], 0)).2).left keep tear).b, 0) := by
  rw [crash_eq dirs hl]
  unfold ADk.read
  have hn : isNm (nmAt l j) = true := hd.nms (l.getD j ([], 0)) (by rw [List.getD_eq_getElem?_getD, List.getElem?_eq_getElem hj]; exact List.getElem_mem hj)
  simp only [hn]
  rw [show alFind (numbered l) (nmAt l j) = some j from zip_find hd.rise hj]
  simp only [ADk.file, List.getD_eq_getElem?_getD, List.getElem?_map, List.getElem?_eq_getElem hj, Option.map_some, Option.getD_some]
  rfl

theorem left_last (b : List UInt8) (keep tear : Int) : (AFile.left ⟨b, b.length⟩ keep tear).b = b := by
  unfold AFile.left clamp
  simp

theorem Lasting.crash {a : ADk} {nm : Nm} {b : List UInt8} {i : Nat} (h : Lasting a nm b i) (hok : a.Ok) (keep dirs tear : Int) : (a.crash keep dirs tear).read nm = (b, 0) := by
  obtain ⟨l, hl, hd⟩ := hok.prefix dirs.toNat
  have hf : alFind l nm = some i := (runLog_apart _ _ _ (fun c hc => h.log c (List.mem_of_mem_take hc)) hl).trans h.old
  obtain ⟨j, hj⟩ := List.mem_iff_getElem?.1 (alFind_mem hf)
  have hjl := (List.getElem?_eq_some_iff.1 hj).1
  have hg : l.getD j ([], 0) = (nm, i) := by rw [List.getD_eq_getElem?_getD, hj]; rfl
  have := crash_read hl hd keep tear hjl
  rw [hg] at this
  rw [show nmAt l j = nm by unfold nmAt; rw [hg], h.file, left_last] at this
  exact this

/-- The beginning of DiskLasts: what the name and its file come to. -/
def ADk.lastA (a : ADk) (nm : Nm) (b : List UInt8) : Int × ADk := (a.delete nm).2.append nm b
def ADk.lastB (a : ADk) (nm : Nm) (b : List UInt8) : Int × ADk := (a.lastA nm b).2.sync nm
def ADk.lastC (a : ADk) (nm : Nm) (b : List UInt8) : Int × ADk := (a.lastB nm b).2.syncDir

theorem delete_lit {a : ADk} (h : a.Lit) (hops : a.ops < 65536) (nm : Nm) (hnm : isNm nm = true) : alFind (a.delete nm).2.now nm = none ∧ (a.delete nm).2.Lit ∧ (a.delete nm).2.ops ≤ a.ops + 1 := by
  have hp := h.powered
  unfold ADk.delete
  simp only [hp]
  split
  · rename_i hb
    refine ⟨?_, h, Nat.le_succ _⟩
    unfold ADk.bad at hb
    rw [if_neg (by simp [h.1]), if_neg (by simp [hnm])] at hb
    cases hf : alFind a.now nm with
    | none => rfl
    | some i =>
      rw [if_neg (by simp [hf]), if_neg (by omega)] at hb
      exact absurd rfl hb
  · exact ⟨find_del_same _ _, h, Nat.le_refl _⟩

theorem last_begins {a : ADk} (hok : a.Ok) (hlit : a.Lit) (hops : a.ops ≤ 1000) (nm : Nm) (hnm : isNm nm = true) (b : List UInt8) :
    ((a.lastA nm b).1 = 23) ∨ ((a.lastA nm b).1 = 0 ∧ (a.lastB nm b).1 = 0 ∧ (a.lastC nm b).1 = 0 ∧ (a.lastC nm b).2.Lit ∧ ∃ i, Lasting (a.lastC nm b).2 nm b i) := by
  obtain ⟨d1, d2, d3⟩ := delete_lit hlit (by omega) nm hnm
  have dok := a.delete_ok hok nm
  unfold ADk.lastC ADk.lastB ADk.lastA
  generalize (a.delete nm).2 = a2 at *
  have hb2 : a2.bad false [nm] = 0 := by
    unfold ADk.bad
    rw [if_neg (by simp [d2.1]), if_neg (by simp [hnm]), if_neg (by simp), if_neg (by omega)]
  have happ : a2.append nm b = (match (none : Option Nat) with
      | none => if 64 ≤ a2.now.length ∨ 262144 < b.length then (23, a2) else (0, (ADk.change { a2 with fs := a2.fs ++ [AFile.mk b 0] } (.mk nm a2.fs.length)).did)
      | some i => (0, a2)) := by
    unfold ADk.append
    simp only [d2.powered, hb2, d1]
    rfl
  simp only at happ
  by_cases hc : 64 ≤ a2.now.length ∨ 262144 < b.length
  · left; rw [happ, if_pos hc]
  · right
    rw [if_neg hc] at happ
    have hon : (Chg.mk nm a2.fs.length).on a2.now = some (alPut a2.now nm a2.fs.length) := by
      show (if (alFind a2.now nm).isNone && decide (a2.now.length < 64) then _ else _) = _
      rw [d1, if_pos (by simp; omega)]
    have hok3 := a2.append_ok dok nm b
    rw [happ] at hok3
    refine ⟨by rw [happ], ?_⟩
    rw [happ]
    -- the disk behind Append
    have hnow3 : (ADk.change { a2 with fs := a2.fs ++ [AFile.mk b 0] } (.mk nm a2.fs.length)).did.now = alPut a2.now nm a2.fs.length := by
      show ((Chg.mk nm a2.fs.length).on a2.now).getD a2.now = _
      rw [hon]; rfl
    have hops3 : (ADk.change { a2 with fs := a2.fs ++ [AFile.mk b 0] } (.mk nm a2.fs.length)).did.ops = a2.ops + 1 := rfl
    have hlit3 : (ADk.change { a2 with fs := a2.fs ++ [AFile.mk b 0] } (.mk nm a2.fs.length)).did.Lit := d2
    have hfs3 : (ADk.change { a2 with fs := a2.fs ++ [AFile.mk b 0] } (.mk nm a2.fs.length)).did.fs = a2.fs ++ [AFile.mk b 0] := rfl
    simp only
    generalize (ADk.change { a2 with fs := a2.fs ++ [AFile.mk b 0] } (.mk nm a2.fs.length)).did = a3 at *
    have hf3 : alFind a3.now nm = some a2.fs.length := by rw [hnow3, find_put_same]
    have hfile3 : a3.file a2.fs.length = ⟨b, 0⟩ := by unfold ADk.file; rw [hfs3]; simp
    have hb3 : a3.bad true [nm] = 0 := by
      unfold ADk.bad
      rw [if_neg (by simp [hlit3.1]), if_neg (by simp [hnm]), if_neg (by simp [hf3]), if_neg (by omega)]
    have hsync : a3.sync nm = (0, { a3 with fs := a3.fs.set a2.fs.length ⟨b, b.length⟩ }.did) := by
      unfold ADk.sync
      simp only [hlit3.powered, hb3, hf3, hfile3]
      rfl
    rw [hsync]
    refine ⟨rfl, ?_⟩
    have hsd : (ADk.did { a3 with fs := a3.fs.set a2.fs.length ⟨b, b.length⟩ }).syncDir = (0, ADk.did { (ADk.did { a3 with fs := a3.fs.set a2.fs.length ⟨b, b.length⟩ }) with old := a3.now, log := [] }) := by
      have hl4 : (ADk.did { a3 with fs := a3.fs.set a2.fs.length ⟨b, b.length⟩ }).Lit := hlit3
      unfold ADk.syncDir
      simp only [hl4.powered]
      rw [if_neg]
      · rfl
      · unfold ADk.bad
        have : (ADk.did { a3 with fs := a3.fs.set a2.fs.length ⟨b, b.length⟩ }).ops = a3.ops + 1 := rfl
        rw [if_neg (by simp [hl4.1]), if_neg (by simp), if_neg (by simp), if_neg (by omega)]
        simp
    simp only
    rw [hsd]
    refine ⟨rfl, hlit3, a2.fs.length, hf3, hf3, ?_, by simp [ADk.did], ?_⟩
    · show ADk.file _ _ = _
      unfold ADk.file
      show (a3.fs.set a2.fs.length ⟨b, b.length⟩).getD a2.fs.length ⟨[], 0⟩ = _
      rw [List.getD_eq_getElem?_getD, List.getElem?_set, if_pos rfl, hfs3]
      simp
    · intro p hp e
      change p ∈ a3.now at hp
      rw [hnow3] at hp
      rcases mem_alPut.1 hp with rfl | ⟨hp, _⟩
      · rfl
      · have := dok.now.ids p hp
        omega

end Go.Proofs.Ytbankfdgoolbdaa
