/- The disk told plainly: files by number, the directory now and as it was synced, what changed since. Nothing is claimed of a program here.
What holds of a disk at all times, told plainly, is kept by all that is done to it. Nothing is claimed of a program here.
A disk in memory: its struct, its two maps, its log of functions, its files, the variables that the functions hold. Nothing is claimed of a program here.
Contracts of the library at this program, as the shelf lays them.
Which names may be: IsName walked; what it answers, told plainly.
A new disk; how many operations there were; the power goes at an operation. -/
import Derived.Test.YtbankfdgoolbdaaMPlays1
import Derived.Shelf.SlIter.Nil
import Derived.Shelf.SortM.Plain
import Derived.Shelf.SortM.SortNone
import Derived.Ground.GgzProg
import Derived.Ground.SlgmProg
import Derived.Ground.SlmcProg
import Derived.Ground.SlgnProg
import Derived.Shelf.SlMaps.Clone
import Derived.Shelf.SlicesE.Clone
import Derived.Shelf.Small.Bits
import Derived.Shelf.Strconv.Itoa0
import Derived.Shelf.GgClosure.StringsIndexFunc
import Derived.Ground.GgwProg
import Derived.Shelf.GgClosure.StringsIndexFuncTop
import Derived.Test.YtbankfdgoolbdaaProg
import Derived.Laws.RangeAny
namespace Go.Proofs.Ytbankfdgoolbdaa
open Go
set_option linter.unusedVariables false

structure AFile where
  b : List UInt8
  sy : Nat
deriving DecidableEq

instance : Inhabited AFile := ⟨⟨[], 0⟩⟩

abbrev Dir := List (Nm × Nat)

/-- A change of a directory: a new name of a file, a name taken away, a name changed. -/
inductive Chg where
  | mk (s : Nm) (i : Nat)
  | del (s : Nm)
  | ren (s t : Nm)
deriving DecidableEq

structure ADk where
  fs : List AFile
  now : Dir
  old : Dir
  log : List Chg
  ops : Nat
  cut : Int
  off : Bool
deriving DecidableEq

def okByte (c : UInt8) : Bool := (97 ≤ c && c ≤ 122) || (65 ≤ c && c ≤ 90) || (48 ≤ c && c ≤ 57) || c == 45 || c == 46
def isNm (s : Nm) : Bool := decide (1 ≤ s.length) && decide (s.length ≤ 16) && s.all okByte

/-- What a change makes of a directory; none: it cannot be. -/
def Chg.on (l : Dir) : Chg → Option Dir
  | .mk s i => if (alFind l s).isNone && decide (l.length < 64) then some (alPut l s i) else none
  | .del s => some (alDel l s)
  | .ren s t => (alFind l s).map fun i => alPut (alDel l s) t i

def runLog (l : Dir) : List Chg → Option Dir
  | [] => some l
  | c :: r => (c.on l).bind fun l' => runLog l' r

def ADk.new : ADk := ⟨[], [], [], [], 0, -1, false⟩

def ADk.powered (a : ADk) : ADk := { a with off := a.off || (decide (0 ≤ a.cut) && decide (a.cut ≤ a.ops)) }

/-- Why an operation cannot be done, where the power is as it is told; 0: it can. -/
def ADk.bad (a : ADk) (there : Bool) (l : List Nm) : Int :=
  if a.off then 24
  else if l.all isNm = false then 20
  else if there && (alFind a.now (l.headD [])).isNone then 21
  else if 65536 ≤ a.ops then 23 else 0

def ADk.file (a : ADk) (i : Nat) : AFile := a.fs.getD i ⟨[], 0⟩

def ADk.change (a : ADk) (c : Chg) : ADk := { a with now := (c.on a.now).getD a.now, log := a.log ++ [c] }
def ADk.did (a : ADk) : ADk := { a with ops := a.ops + 1 }

def ADk.append (a0 : ADk) (s : Nm) (b : List UInt8) : Int × ADk :=
  let a := a0.powered
  let e := a.bad false [s]
  if e ≠ 0 then (e, a) else
  match alFind a.now s with
  | none => if 64 ≤ a.now.length ∨ 262144 < b.length then (23, a) else (0, (ADk.change { a with fs := a.fs ++ [AFile.mk b 0] } (.mk s a.fs.length)).did)
  | some i => if 262144 < b.length + (a.file i).b.length then (23, a) else (0, { a with fs := a.fs.set i ⟨(a.file i).b ++ b, (a.file i).sy⟩ }.did)

def ADk.read (a : ADk) (s : Nm) : List UInt8 × Int :=
  if a.off then ([], 24) else if isNm s = false then ([], 20) else
  match alFind a.now s with
  | none => ([], 21)
  | some i => ((a.file i).b, 0)

def ADk.sync (a0 : ADk) (s : Nm) : Int × ADk :=
  let a := a0.powered
  let e := a.bad true [s]
  if e ≠ 0 then (e, a) else
  match alFind a.now s with
  | none => (0, a)
  | some i => (0, { a with fs := a.fs.set i ⟨(a.file i).b, (a.file i).b.length⟩ }.did)

def ADk.rename (a0 : ADk) (s t : Nm) : Int × ADk :=
  let a := a0.powered
  let e := a.bad true [s, t]
  if e ≠ 0 then (e, a) else (0, (a.change (.ren s t)).did)

def ADk.delete (a0 : ADk) (s : Nm) : Int × ADk :=
  let a := a0.powered
  let e := a.bad true [s]
  if e ≠ 0 then (e, a) else (0, (a.change (.del s)).did)

def ADk.syncDir (a0 : ADk) : Int × ADk :=
  let a := a0.powered
  let e := a.bad false []
  if e ≠ 0 then (e, a) else (0, { a with old := a.now, log := [] }.did)

def ADk.cutAt (a : ADk) (n : Int) : ADk := { a with cut := n, off := false }

def ADk.poke (a : ADk) (s : Nm) (at_ : Int) (b : UInt8) : Int × ADk :=
  if isNm s = false then (20, a) else
  match alFind a.now s with
  | none => (21, a)
  | some i => if at_ < 0 ∨ ((a.file i).b.length : Int) ≤ at_ then (2, a) else (0, { a with fs := a.fs.set i ⟨(a.file i).b.set at_.toNat b, (a.file i).sy⟩ })

/-- A number between 0 and n. -/
def clamp (x : Int) (n : Nat) : Nat := min x.toNat n

/-- What a crash leaves of a file. -/
def AFile.left (x : AFile) (keep tear : Int) : AFile :=
  let k := clamp keep (x.b.length - x.sy)
  let n := x.sy + k
  let t := clamp tear k
  let b := x.b.take (n - t) ++ ((x.b.take n).drop (n - t)).map (· ^^^ 255)
  ⟨b, n⟩

def ADk.crash (a : ADk) (keep dirs tear : Int) : ADk :=
  let l := (runLog a.old (a.log.take dirs.toNat)).getD []
  let d : Dir := (l.map (·.1)).zipIdx
  ⟨l.map fun p => (a.file p.2).left keep tear, d, d, [], 0, -1, false⟩

def ADk.names (a : ADk) : List Nm := a.now.map (·.1)

/-- Names rising. -/
def Rising {α : Type} (l : List (Nm × α)) : Prop := l.Pairwise fun p q => bytesBefore p.1 q.1 = true

/-- What holds of a disk at all times. -/
structure ADk.Ok (a : ADk) : Prop where
  log : runLog a.old a.log = some a.now
  old : a.old.length ≤ 64
  rise : Rising a.old
  nms : ∀ p ∈ a.old, isNm p.1 = true
  lognm : ∀ c ∈ a.log, (match c with | .mk s _ => isNm s = true | .del s => isNm s = true | .ren s t => isNm s = true ∧ isNm t = true)
  ids : ∀ p ∈ a.old, p.2 < a.fs.length
  logids : ∀ s i, Chg.mk s i ∈ a.log → i < a.fs.length
  fs : ∀ f ∈ a.fs, f.b.length ≤ 262144 ∧ f.sy ≤ f.b.length
  ops : a.ops ≤ 65536
  loglen : a.log.length ≤ a.ops

/-! ### directories -/
theorem bytesBefore_trans : ∀ {a b c : Nm}, bytesBefore a b = true → bytesBefore b c = true → bytesBefore a c = true
  | [], [], _, h, _ => by simp [bytesBefore] at h
  | [], _ :: _, [], _, h => by simp [bytesBefore] at h
  | [], _ :: _, _ :: _, _, _ => by simp [bytesBefore]
  | _ :: _, [], _, h, _ => by simp [bytesBefore] at h
  | _ :: _, _ :: _, [], _, h => by simp [bytesBefore] at h
  | x :: r, y :: s, z :: t, h, h' => by
    simp only [bytesBefore, Bool.or_eq_true, decide_eq_true_eq, Bool.and_eq_true, beq_iff_eq] at h h' ⊢
    rcases h with h | ⟨e, h⟩
    · rcases h' with h' | ⟨e', h'⟩
      · left; rw [UInt8.lt_iff_toNat_lt] at *; omega
      · left; rw [← e']; exact h
    · rcases h' with h' | ⟨e', h'⟩
      · left; rw [e]; exact h'
      · right; exact ⟨e.trans e', bytesBefore_trans h h'⟩

theorem bytesBefore_irrefl : ∀ (a : Nm), bytesBefore a a = false
  | [] => rfl
  | x :: r => by
    simp only [bytesBefore, bytesBefore_irrefl r, Bool.and_false, Bool.or_false, decide_eq_false_iff_not]
    intro h
    rw [UInt8.lt_iff_toNat_lt] at h
    omega

theorem bytesBefore_total : ∀ {a b : Nm}, bytesBefore a b = false → a ≠ b → bytesBefore b a = true
  | [], [], _, h => absurd rfl h
  | [], _ :: _, h, _ => by simp [bytesBefore] at h
  | _ :: _, [], _, _ => rfl
  | x :: r, y :: s, h, hne => by
    simp only [bytesBefore, Bool.or_eq_false_iff, decide_eq_false_iff_not, Bool.and_eq_false_iff, beq_eq_false_iff_ne, Bool.or_eq_true, decide_eq_true_eq, Bool.and_eq_true, beq_iff_eq] at h ⊢
    by_cases e : x = y
    · right
      refine ⟨e.symm, bytesBefore_total ?_ ?_⟩
      · rcases h.2 with h2 | h2
        · exact absurd e h2
        · exact h2
      · intro e2; exact hne (by rw [e, e2])
    · left
      have h1 := h.1
      rw [UInt8.lt_iff_toNat_lt] at h1 ⊢
      have : x.toNat ≠ y.toNat := fun e' => e (UInt8.toNat_inj.1 e')
      omega

section
variable {α : Type}
theorem rising_ins {x : Nm × α} {l : List (Nm × α)} (h : Rising l) (hx : ∀ p ∈ l, p.1 ≠ x.1) : Rising (alIns x l) := by
  induction l with
  | nil => simp [alIns, Rising]
  | cons y r ih =>
    have hr := List.pairwise_cons.1 h
    unfold alIns
    split
    · rename_i hb
      refine List.pairwise_cons.2 ⟨fun z hz => ?_, h⟩
      rcases List.mem_cons.1 hz with rfl | hz
      · exact hb
      · exact bytesBefore_trans hb (hr.1 z hz)
    · rename_i hb
      refine List.pairwise_cons.2 ⟨fun z hz => ?_, ih hr.2 fun p hp => hx p (by simp [hp])⟩
      rcases mem_alIns.1 hz with rfl | hz
      · exact bytesBefore_total (by simpa using hb) (hx y (by simp)).symm
      · exact hr.1 z hz
theorem rising_del {l : List (Nm × α)} (h : Rising l) (s : Nm) : Rising (alDel l s) := h.filter _
theorem rising_put {l : List (Nm × α)} (h : Rising l) (s : Nm) (v : α) : Rising (alPut l s v) :=
  rising_ins (rising_del h s) fun p hp => by simpa [alDel] using (List.mem_filter.1 hp).2
theorem Rising.inj {l : List (Nm × α)} (h : Rising l) {p q : Nm × α} (hp : p ∈ l) (hq : q ∈ l) (e : p.1 = q.1) : p = q := by
  induction l with
  | nil => cases hp
  | cons y r ih =>
    have hr := List.pairwise_cons.1 h
    rcases List.mem_cons.1 hp with rfl | hp' <;> rcases List.mem_cons.1 hq with rfl | hq'
    · rfl
    · have := hr.1 q hq'; rw [e, bytesBefore_irrefl] at this; cases this
    · have := hr.1 p hp'; rw [e, bytesBefore_irrefl] at this; cases this
    · exact ih hr.2 hp' hq'
theorem Rising.find {l : List (Nm × α)} (h : Rising l) {p : Nm × α} (hp : p ∈ l) : alFind l p.1 = some p.2 := by
  cases hf : alFind l p.1 with
  | none =>
    unfold alFind at hf
    simp only [Option.map_eq_none_iff, List.find?_eq_none] at hf
    have := hf p hp
    simp at this
  | some v =>
    have := h.inj (alFind_mem hf) hp rfl
    rw [← this]
end

/-- What each change of a log keeps. -/
theorem runLog_keeps {P : Dir → Prop} (hP : ∀ (l : Dir) (c : Chg) (l' : Dir), P l → c.on l = some l' → P l') : ∀ (L : List Chg) (l l' : Dir), P l → runLog l L = some l' → P l'
  | [], l, l', h, e => by cases e; exact h
  | c :: r, l, l', h, e => by
    simp only [runLog, Option.bind_eq_some_iff] at e
    obtain ⟨m, h1, h2⟩ := e
    exact runLog_keeps hP r m l' (hP l c m h h1) h2

theorem runLog_append (l : Dir) (L M : List Chg) : runLog l (L ++ M) = (runLog l L).bind fun l' => runLog l' M := by
  induction L generalizing l with
  | nil => rfl
  | cons c r ih =>
    simp only [List.cons_append, runLog]
    cases c.on l with
    | none => rfl
    | some m => exact ih m

theorem runLog_take {l m : Dir} {L : List Chg} (h : runLog l L = some m) (k : Nat) : ∃ l', runLog l (L.take k) = some l' := by
  rw [← List.take_append_drop k L, runLog_append, Option.bind_eq_some_iff] at h
  obtain ⟨l', h1, _⟩ := h
  exact ⟨l', h1⟩

theorem on_len {l l' : Dir} {c : Chg} (h : c.on l = some l') (hl : l.length ≤ 64) : l'.length ≤ 64 := by
  cases c with
  | mk s i =>
    simp only [Chg.on] at h
    split at h
    · rename_i hc
      simp at hc
      cases h
      have := alPut_length l s i
      omega
    · cases h
  | del s => cases h; exact Nat.le_trans (alDel_length l s) hl
  | ren s t =>
    simp only [Chg.on, Option.map_eq_some_iff] at h
    obtain ⟨i, hi, rfl⟩ := h
    have hm := alFind_mem hi
    have h1 : (alDel l s).length < l.length := by
      unfold alDel
      rw [List.length_filter_lt_length_iff_exists]
      exact ⟨_, hm, by simp⟩
    have := alPut_length (alDel l s) t i
    omega

theorem on_rising {l l' : Dir} {c : Chg} (h : c.on l = some l') (hl : Rising l) : Rising l' := by
  cases c with
  | mk s i =>
    simp only [Chg.on] at h
    split at h
    · cases h; exact rising_put hl _ _
    · cases h
  | del s => cases h; exact rising_del hl _
  | ren s t =>
    simp only [Chg.on, Option.map_eq_some_iff] at h
    obtain ⟨i, hi, rfl⟩ := h
    exact rising_put (rising_del hl _) _ _

end Go.Proofs.Ytbankfdgoolbdaa
namespace Go.Proofs.Ytbankfdgoolbdaa
open Go
set_option linter.unusedVariables false

theorem runLog_keeps2 {P : Dir → Prop} : ∀ (L : List Chg) (l l' : Dir), (∀ c ∈ L, ∀ (l : Dir) (l' : Dir), P l → c.on l = some l' → P l') → P l → runLog l L = some l' → P l'
  | [], l, l', _, h, e => by cases e; exact h
  | c :: r, l, l', hP, h, e => by
    simp only [runLog, Option.bind_eq_some_iff] at e
    obtain ⟨m, h1, h2⟩ := e
    exact runLog_keeps2 r m l' (fun c' hc' => hP c' (by simp [hc'])) (hP c (by simp) l m h h1) h2

def Chg.named : Chg → Prop
  | .mk s _ => isNm s = true
  | .del s => isNm s = true
  | .ren s t => isNm s = true ∧ isNm t = true

theorem on_each {n : Nat} {c : Chg} {l l' : Dir} (hc : c.named) (hi : ∀ s i, c = .mk s i → i < n) (hl : ∀ p ∈ l, isNm p.1 = true ∧ p.2 < n) (h : c.on l = some l') : ∀ p ∈ l', isNm p.1 = true ∧ p.2 < n := by
  cases c with
  | mk s i =>
    simp only [Chg.on] at h
    split at h
    · cases h
      intro p hp
      rcases mem_alPut.1 hp with rfl | ⟨hp, _⟩
      · exact ⟨hc, hi s i rfl⟩
      · exact hl p hp
    · cases h
  | del s => cases h; exact fun p hp => hl p (List.mem_filter.1 hp).1
  | ren s t =>
    simp only [Chg.on, Option.map_eq_some_iff] at h
    obtain ⟨i, hi', rfl⟩ := h
    intro p hp
    rcases mem_alPut.1 hp with rfl | ⟨hp, _⟩
    · exact ⟨hc.2, (hl _ (alFind_mem hi')).2⟩
    · exact hl p (List.mem_filter.1 hp).1

variable {a : ADk}

/-- What the directory is behind the first changes of the log. -/
structure DirOk (a : ADk) (l : Dir) : Prop where
  len : l.length ≤ 64
  rise : Rising l
  nms : ∀ p ∈ l, isNm p.1 = true
  ids : ∀ p ∈ l, p.2 < a.fs.length

theorem ADk.Ok.named (h : a.Ok) : ∀ c ∈ a.log, c.named := fun c hc => by
  have := h.lognm c hc
  cases c <;> exact this

theorem ADk.Ok.prefix (h : a.Ok) (k : Nat) : ∃ l, runLog a.old (a.log.take k) = some l ∧ DirOk a l := by
  obtain ⟨l, hl⟩ := runLog_take h.log k
  refine ⟨l, hl, ?_⟩
  have h1 := runLog_keeps2 (P := fun l => l.length ≤ 64) _ _ _ (fun c _ l l' hl he => on_len he hl) h.old hl
  have h2 := runLog_keeps2 (P := fun l => Rising l) _ _ _ (fun c _ l l' hl he => on_rising he hl) h.rise hl
  have h3 := runLog_keeps2 (P := fun l => ∀ p ∈ l, isNm p.1 = true ∧ p.2 < a.fs.length) _ _ _
    (fun c hc l l' hl he => on_each (h.named c (List.mem_of_mem_take hc)) (fun s i e => h.logids s i (e ▸ List.mem_of_mem_take hc)) hl he) (fun p hp => ⟨h.nms p hp, h.ids p hp⟩) hl
  exact ⟨h1, h2, fun p hp => (h3 p hp).1, fun p hp => (h3 p hp).2⟩

theorem ADk.Ok.now (h : a.Ok) : DirOk a a.now := by
  obtain ⟨l, hl, hd⟩ := h.prefix a.log.length
  rw [List.take_length, h.log] at hl
  cases hl
  exact hd

theorem ADk.Ok.powered (h : a.Ok) : a.powered.Ok := ⟨h.log, h.old, h.rise, h.nms, h.lognm, h.ids, h.logids, h.fs, h.ops, h.loglen⟩

theorem ADk.new_ok : ADk.new.Ok := ⟨rfl, by decide, List.Pairwise.nil, by simp [ADk.new], by simp [ADk.new], by simp [ADk.new], by simp [ADk.new], by simp [ADk.new], by decide, by decide⟩

/-- The files are other ones. -/
theorem ADk.Ok.files (h : a.Ok) (fs : List AFile) (hl : a.fs.length ≤ fs.length) (hf : ∀ f ∈ fs, f.b.length ≤ 262144 ∧ f.sy ≤ f.b.length) : ({ a with fs := fs } : ADk).Ok :=
  ⟨h.log, h.old, h.rise, h.nms, h.lognm, fun p hp => Nat.lt_of_lt_of_le (h.ids p hp) hl, fun s i hi => Nat.lt_of_lt_of_le (h.logids s i hi) hl, hf, h.ops, h.loglen⟩

theorem ADk.Ok.set (h : a.Ok) (i : Nat) (f : AFile) (hf : f.b.length ≤ 262144 ∧ f.sy ≤ f.b.length) : ({ a with fs := a.fs.set i f } : ADk).Ok :=
  h.files _ (by simp) fun g hg => by
    rcases List.mem_or_eq_of_mem_set hg with hg | rfl
    · exact h.fs g hg
    · exact hf

theorem ADk.Ok.did (h : a.Ok) (hn : a.ops < 65536) : a.did.Ok := ⟨h.log, h.old, h.rise, h.nms, h.lognm, h.ids, h.logids, h.fs, hn, Nat.le_succ_of_le h.loglen⟩

/-- A change that can be done. -/
theorem ADk.Ok.changed (h : a.Ok) (hn : a.ops < 65536) {c : Chg} {l' : Dir} (hc : c.on a.now = some l') (hnm : c.named) (hi : ∀ s i, c = .mk s i → i < a.fs.length) : (a.change c).did.Ok := by
  refine ⟨?_, h.old, h.rise, h.nms, ?_, h.ids, ?_, h.fs, hn, ?_⟩
  · show runLog a.old (a.log ++ [c]) = some ((c.on a.now).getD a.now)
    rw [runLog_append, h.log, hc]
    show (c.on a.now).bind (fun l' => some l') = _
    rw [hc]; rfl
  · intro c' hc'
    rcases List.mem_append.1 hc' with hc' | hc'
    · exact h.lognm c' hc'
    · simp at hc'; subst hc'; cases c' <;> exact hnm
  · intro s i hs
    rcases List.mem_append.1 hs with hs | hs
    · exact h.logids s i hs
    · simp at hs; exact hi s i hs.symm
  · show (a.log ++ [c]).length ≤ a.ops + 1
    have := h.loglen
    simp; omega

theorem bad_off {there : Bool} {l : List Nm} (h : a.bad there l = 0) : a.off = false ∧ l.all isNm = true ∧ (there = true → (alFind a.now (l.headD [])).isSome = true) ∧ a.ops < 65536 := by
  unfold ADk.bad at h
  split at h
  · cases h
  split at h
  · cases h
  split at h
  · cases h
  split at h
  · cases h
  · rename_i h1 h2 h3 h4
    refine ⟨by simpa using h1, by simpa using h2, fun e => ?_, by omega⟩
    subst e
    cases hf : alFind a.now (l.headD []) with
    | none => rw [hf] at h3; simp at h3
    | some v => rfl

theorem ADk.file_ok (h : a.Ok) (i : Nat) : (a.file i).b.length ≤ 262144 ∧ (a.file i).sy ≤ (a.file i).b.length := by
  unfold ADk.file
  rw [List.getD_eq_getElem?_getD]
  cases hf : a.fs[i]? with
  | none => simp
  | some f => exact h.fs f (List.mem_of_getElem? hf)

theorem ADk.append_ok (h : a.Ok) (s : Nm) (b : List UInt8) : (a.append s b).2.Ok := by
  have hp := h.powered
  unfold ADk.append
  simp only
  split
  · exact hp
  · rename_i hb
    obtain ⟨h1, h2, h3, h4⟩ := bad_off (Classical.not_not.1 hb)
    have hs : isNm s = true := by simpa using h2
    split
    · rename_i hn
      split
      · exact hp
      · rename_i hc
        have h5 : a.powered.now.length < 64 := by omega
        have h6 : b.length ≤ 262144 := by omega
        refine ADk.Ok.changed (a := { a.powered with fs := a.powered.fs ++ [AFile.mk b 0] }) (hp.files (a.powered.fs ++ [AFile.mk b 0]) (by simp) ?_) h4 (c := .mk s a.powered.fs.length) (l' := alPut a.powered.now s a.powered.fs.length) ?_ hs ?_
        · intro f hf
          rcases List.mem_append.1 hf with hf | hf
          · exact hp.fs f hf
          · simp at hf; subst hf; exact ⟨h6, Nat.zero_le _⟩
        · show (if (alFind a.powered.now s).isNone && decide (a.powered.now.length < 64) then _ else _) = _
          rw [hn, if_pos (by simp [h5])]
        · intro s' i' e
          cases e
          simp
    · rename_i i hi
      split
      · exact hp
      · rename_i hc
        have := a.powered.file_ok hp i
        exact (hp.set i _ ⟨by simp; omega, by simp; omega⟩).did h4

theorem ADk.sync_ok (h : a.Ok) (s : Nm) : (a.sync s).2.Ok := by
  have hp := h.powered
  unfold ADk.sync
  simp only
  split
  · exact hp
  · rename_i hb
    obtain ⟨h1, h2, h3, h4⟩ := bad_off (Classical.not_not.1 hb)
    split
    · exact hp
    · rename_i i hi
      have := a.powered.file_ok hp i
      exact (hp.set i ⟨(a.powered.file i).b, (a.powered.file i).b.length⟩ ⟨this.1, Nat.le_refl _⟩).did h4

theorem ADk.rename_ok (h : a.Ok) (s t : Nm) : (a.rename s t).2.Ok := by
  have hp := h.powered
  unfold ADk.rename
  simp only
  split
  · exact hp
  · rename_i hb
    obtain ⟨h1, h2, h3, h4⟩ := bad_off (Classical.not_not.1 hb)
    have h3' := h3 rfl
    simp only [List.headD_cons] at h3'
    obtain ⟨i, hi⟩ := Option.isSome_iff_exists.1 h3'
    simp at h2
    exact hp.changed h4 (c := .ren s t) (l' := alPut (alDel a.powered.now s) t i) (by simp only [Chg.on, hi, Option.map_some]) h2 (fun _ _ e => by cases e)

theorem ADk.delete_ok (h : a.Ok) (s : Nm) : (a.delete s).2.Ok := by
  have hp := h.powered
  unfold ADk.delete
  simp only
  split
  · exact hp
  · rename_i hb
    obtain ⟨h1, h2, h3, h4⟩ := bad_off (Classical.not_not.1 hb)
    simp at h2
    exact hp.changed h4 (c := .del s) rfl h2 (fun _ _ e => by cases e)

theorem ADk.syncDir_ok (h : a.Ok) : a.syncDir.2.Ok := by
  have hp := h.powered
  unfold ADk.syncDir
  simp only
  split
  · exact hp
  · rename_i hb
    obtain ⟨h1, h2, h3, h4⟩ := bad_off (Classical.not_not.1 hb)
    have hn := hp.now
    exact ⟨rfl, hn.len, hn.rise, hn.nms, by simp [ADk.did], hn.ids, by simp [ADk.did], hp.fs, h4, by simp [ADk.did]⟩

theorem ADk.cutAt_ok (h : a.Ok) (n : Int) : (a.cutAt n).Ok := ⟨h.log, h.old, h.rise, h.nms, h.lognm, h.ids, h.logids, h.fs, h.ops, h.loglen⟩

theorem ADk.poke_ok (h : a.Ok) (s : Nm) (k : Int) (b : UInt8) : (a.poke s k b).2.Ok := by
  unfold ADk.poke
  split
  · exact h
  · split
    · exact h
    · rename_i i hi
      split
      · exact h
      · have := a.file_ok h i
        exact h.set i _ (by simpa using this)

theorem left_len (x : AFile) (hx : x.sy ≤ x.b.length) (keep tear : Int) : (x.left keep tear).b.length = (x.left keep tear).sy ∧ (x.left keep tear).sy ≤ x.b.length := by
  unfold AFile.left clamp
  simp only [List.length_append, List.length_take, List.length_map, List.length_drop]
  omega

theorem ADk.crash_ok (h : a.Ok) (keep dirs tear : Int) : (a.crash keep dirs tear).Ok := by
  obtain ⟨l, hl, hd⟩ := h.prefix dirs.toNat
  unfold ADk.crash
  rw [hl]
  simp only [Option.getD_some]
  have hlen : ((l.map (·.1)).zipIdx).length = l.length := by simp
  refine ⟨rfl, by rw [hlen]; exact hd.len, ?_, ?_, by simp, ?_, by simp, ?_, by simp, by simp⟩
  · show Rising ((l.map (·.1)).zipIdx)
    have h1 : (l.map (·.1)).Pairwise fun p q => bytesBefore p q = true := List.pairwise_map.2 hd.rise
    unfold Rising
    have h2 : ((l.map (·.1)).zipIdx).map (·.1) = l.map (·.1) := by simp
    rw [← h2, List.pairwise_map] at h1
    exact h1
  · intro p hp
    have : p.1 ∈ l.map (·.1) := by
      have h2 : ((l.map (·.1)).zipIdx).map (·.1) = l.map (·.1) := by simp
      rw [← h2]; exact List.mem_map_of_mem hp
    obtain ⟨q, hq, e⟩ := List.mem_map.1 this
    rw [← e]; exact hd.nms q hq
  · intro p hp
    have := List.snd_lt_add_of_mem_zipIdx hp
    simpa using this
  · intro f hf
    obtain ⟨p, hp, rfl⟩ := List.mem_map.1 hf
    have h1 := a.file_ok h p.2
    have h2 := left_len (a.file p.2) h1.2 keep tear
    omega

end Go.Proofs.Ytbankfdgoolbdaa
namespace Go.Proofs.Ytbankfdgoolbdaa
open Go Go.RowKit Go.Maps
set_option linter.unusedVariables false

def ptr (n : Nat) : Value := .pointer (some ⟨n, 0, none⟩)
def nmV (s : Nm) : Value := .string ⟨s.toArray⟩
def byteV (c : UInt8) : Value := .int .u8 c.toNat
def bytesV (l : List UInt8) : List Value := l.map byteV

theorem bytesV_append (a b : List UInt8) : bytesV (a ++ b) = bytesV a ++ bytesV b := by simp [bytesV]
theorem bytesV_length (a : List UInt8) : (bytesV a).length = a.length := by simp [bytesV]
theorem nmV_of (s : ByteArray) : nmV s.data.toList = .string s := by
  obtain ⟨⟨l⟩⟩ := s
  rfl

section
variable {o : List Nat} {w0 w w' : World} {db mb ob n k : Nat} {f : Nat → Value} {nv ov : List (Nm × Value)} {lv : Value} {ls : List Value} {fp bp : Nat → Part}

/-- The six parts. -/
def DkC (db : Nat) (f : Nat → Value) (mb : Nat) (nv : List (Nm × Value)) (ob : Nat) (ov : List (Nm × Value)) (lv : Value) (ls : List Value) (n : Nat) (fp : Nat → Part) (k : Nat) (bp : Nat → Part) : Part :=
  (Part.blk db 6 63 f).sep ((Part.map mb nv).sep ((Part.map ob ov).sep ((Part.row 68 1 lv ls.length ls).sep ((Part.all n fp).sep (Part.all k bp)))))

theorem Has.dkCell (h : Has o w0 w (DkC db f mb nv ob ov lv ls n fp k bp)) {i : Nat} (hi : i < 6) :
    w.cell? ⟨db, i, none⟩ = some (f i) ∧ w.frozen? ⟨db, i, none⟩ = false ∧ ∀ u, Has o w0 (w.setCell ⟨db, i, none⟩ u) (DkC db (upd f i u) mb nv ob ov lv ls n fp k bp) := by
  obtain ⟨o', h1, _, _, back⟩ := h.left
  obtain ⟨a, b, c⟩ := h1.blkAt hi
  exact ⟨a, b, fun u => back _ _ (c u)⟩

theorem Has.dkNow (h : Has o w0 w (DkC db f mb nv ob ov lv ls n fp k bp)) :
    ∃ o', Has o' w w (.map mb nv) ∧ (∀ x ∈ o', x ∈ o ∨ w0.heap.size ≤ x) ∧ ∀ w' mb' nv', Has o' w w' (.map mb' nv') → Has o w0 w' (DkC db f mb' nv' ob ov lv ls n fp k bp) := by
  obtain ⟨o1, h1, s1, _, b1⟩ := h.right
  obtain ⟨o2, h2, s2, _, b2⟩ := h1.left
  refine ⟨o2, h2, fun x hx => ?_, fun w' mb' nv' h' => b1 _ _ (b2 _ _ h')⟩
  rcases s2 x hx with h3 | h3
  · exact s1 x h3
  · right; have := h.keeps.size; omega

theorem Has.dkOld (h : Has o w0 w (DkC db f mb nv ob ov lv ls n fp k bp)) :
    ∃ o', Has o' w w (.map ob ov) ∧ ∀ w' ob' ov', Has o' w w' (.map ob' ov') → Has o w0 w' (DkC db f mb nv ob' ov' lv ls n fp k bp) := by
  obtain ⟨o1, h1, s1, _, b1⟩ := h.right
  obtain ⟨o2, h2, s2, _, b2⟩ := h1.right
  obtain ⟨o3, h3, s3, _, b3⟩ := h2.left
  exact ⟨o3, h3, fun w' ob' ov' h' => b1 _ _ (b2 _ _ (b3 _ _ h'))⟩

theorem Has.dkLog (h : Has o w0 w (DkC db f mb nv ob ov lv ls n fp k bp)) :
    ∃ o', Has o' w w (.row 68 1 lv ls.length ls) ∧ ∀ w' lv' ls', Has o' w w' (.row 68 1 lv' ls'.length ls') → Has o w0 w' (DkC db f mb nv ob ov lv' ls' n fp k bp) := by
  obtain ⟨o1, h1, s1, _, b1⟩ := h.right
  obtain ⟨o2, h2, s2, _, b2⟩ := h1.right
  obtain ⟨o3, h3, s3, _, b3⟩ := h2.right
  obtain ⟨o4, h4, s4, _, b4⟩ := h3.left
  exact ⟨o4, h4, fun w' lv' ls' h' => b1 _ _ (b2 _ _ (b3 _ _ (b4 _ _ h')))⟩

theorem Has.dkFiles (h : Has o w0 w (DkC db f mb nv ob ov lv ls n fp k bp)) :
    ∃ o', Has o' w w (.all n fp) ∧ ∀ w' n' fp', Has o' w w' (.all n' fp') → Has o w0 w' (DkC db f mb nv ob ov lv ls n' fp' k bp) := by
  obtain ⟨o1, h1, s1, _, b1⟩ := h.right
  obtain ⟨o2, h2, s2, _, b2⟩ := h1.right
  obtain ⟨o3, h3, s3, _, b3⟩ := h2.right
  obtain ⟨o4, h4, s4, _, b4⟩ := h3.right
  obtain ⟨o5, h5, s5, _, b5⟩ := h4.left
  exact ⟨o5, h5, fun w' n' fp' h' => b1 _ _ (b2 _ _ (b3 _ _ (b4 _ _ (b5 _ _ h'))))⟩

theorem Has.dkBoxes (h : Has o w0 w (DkC db f mb nv ob ov lv ls n fp k bp)) :
    ∃ o', Has o' w w (.all k bp) ∧ ∀ w' k' bp', Has o' w w' (.all k' bp') → Has o w0 w' (DkC db f mb nv ob ov lv ls n fp k' bp') := by
  obtain ⟨o1, h1, s1, _, b1⟩ := h.right
  obtain ⟨o2, h2, s2, _, b2⟩ := h1.right
  obtain ⟨o3, h3, s3, _, b3⟩ := h2.right
  obtain ⟨o4, h4, s4, _, b4⟩ := h3.right
  obtain ⟨o5, h5, s5, _, b5⟩ := h4.right
  exact ⟨o5, h5, fun w' k' bp' h' => b1 _ _ (b2 _ _ (b3 _ _ (b4 _ _ (b5 _ _ h'))))⟩

theorem Has.dkFile (h : Has o w0 w (DkC db f mb nv ob ov lv ls n fp k bp)) {i : Nat} (hi : i < n) :
    ∃ o', Has o' w w (fp i) ∧ ∀ w' A', Has o' w w' A' → Has o w0 w' (DkC db f mb nv ob ov lv ls n (updP fp i A') k bp) := by
  obtain ⟨o1, h1, b1⟩ := h.dkFiles
  obtain ⟨o2, h2, s2, _, b2⟩ := h1.pick hi
  exact ⟨o2, h2, fun w' A' h' => b1 _ _ _ (b2 _ _ h')⟩

theorem Has.dkBox (h : Has o w0 w (DkC db f mb nv ob ov lv ls n fp k bp)) {i : Nat} (hi : i < k) : ∃ o', Has o' w w (bp i) := by
  obtain ⟨o1, h1, b1⟩ := h.dkBoxes
  obtain ⟨o2, h2, _⟩ := h1.pick hi
  exact ⟨o2, h2⟩
end

/-! ### what the parts hold -/
structure DLay where
  mb : Nat
  ob : Nat
  lv : Value
  addr : Nat → Nat
  bv : Nat → Value
  b1 : Nat → Nat
  b2 : Nat → Nat

def dirV (ad : Nat → Nat) (l : Dir) : List (Nm × Value) := alMap (fun i => ptr (ad i)) l

def dkCells (L : DLay) (a : ADk) : Nat → Value
  | 0 => .map (some L.mb)
  | 1 => .map (some L.ob)
  | 2 => L.lv
  | 3 => .int .i64 a.ops
  | 4 => .int .i64 a.cut
  | 5 => .bool a.off
  | _ => .pointer none

def cloV (b1 b2 : Nat) : Chg → Value
  | .mk s i => .func (.func 35) #[] #[ptr b1, ptr b2]
  | .del s => .func (.func 34) #[] #[ptr b1]
  | .ren s t => .func (.func 52) #[] #[ptr b1, ptr b2]

def boxP (ad : Nat → Nat) (b1 b2 : Nat) : Chg → Part
  | .mk s i => (Part.blk b1 1 69 (fun _ => ptr (ad i))).sep (.blk b2 1 9 (fun _ => nmV s))
  | .del s => .blk b1 1 9 (fun _ => nmV s)
  | .ren s t => (Part.blk b1 1 9 (fun _ => nmV s)).sep (.blk b2 1 9 (fun _ => nmV t))

def fileCells (v : Value) (sy : Nat) : Nat → Value
  | 0 => v
  | 1 => .int .i64 sy
  | _ => .pointer none

def fileP (ad : Nat) (v : Value) (x : AFile) : Part :=
  (Part.blk ad 2 71 (fileCells v x.sy)).sep (.row 5 1 v x.b.length (bytesV x.b))

def logV (L : DLay) (l : List Chg) : List Value := l.mapIdx fun j c => cloV (L.b1 j) (L.b2 j) c

def DkL (db : Nat) (a : ADk) (L : DLay) : Part :=
  DkC db (dkCells L a) L.mb (dirV L.addr a.now) L.ob (dirV L.addr a.old) L.lv (logV L a.log) a.fs.length (fun i => fileP (L.addr i) (L.bv i) (a.file i)) a.log.length (fun j => boxP L.addr (L.b1 j) (L.b2 j) (a.log.getD j (.del [])))

/-- A disk at block db that is as a says. -/
def Dk (db : Nat) (a : ADk) : Part := .when a.Ok (.ex (DkL db a))

theorem dk_open {o : List Nat} {w0 w : World} {db : Nat} {a : ADk} (h : Has o w0 w (Dk db a)) : a.Ok ∧ ∃ L, Has o w0 w (DkL db a L) :=
  ⟨h.whenOut.1, h.whenOut.2.exOut⟩
theorem dk_shut {o : List Nat} {w0 w : World} {db : Nat} {a : ADk} (ha : a.Ok) (L : DLay) (h : Has o w0 w (DkL db a L)) : Has o w0 w (Dk db a) :=
  Has.whenIn ha (h.exIn L)

variable {o : List Nat} {w0 w : World} {db : Nat} {a : ADk} {L : DLay}

/-- The struct's cells. -/
theorem dkl_cell (h : Has o w0 w (DkL db a L)) (i : Nat) (hi : i < 6) : w.cell? ⟨db, i, none⟩ = some (dkCells L a i) ∧ w.frozen? ⟨db, i, none⟩ = false := ⟨(h.dkCell hi).1, (h.dkCell hi).2.1⟩

theorem dkl_ops (h : Has o w0 w (DkL db a L)) (n : Nat) : Has o w0 (w.setCell ⟨db, 3, none⟩ (.int .i64 n)) (DkL db { a with ops := n } L) := by
  have := (h.dkCell (i := 3) (by omega)).2.2 (.int .i64 n)
  have e : upd (dkCells L a) 3 (.int .i64 n) = dkCells L { a with ops := n } := by
    funext i
    unfold upd
    match i with
    | 0 | 1 | 2 | 4 | 5 => rfl
    | 3 => rfl
    | i + 6 => rfl
  rw [e] at this
  exact this
theorem dkl_cut (h : Has o w0 w (DkL db a L)) (n : Int) : Has o w0 (w.setCell ⟨db, 4, none⟩ (.int .i64 n)) (DkL db { a with cut := n } L) := by
  have := (h.dkCell (i := 4) (by omega)).2.2 (.int .i64 n)
  have e : upd (dkCells L a) 4 (.int .i64 n) = dkCells L { a with cut := n } := by
    funext i
    unfold upd
    match i with
    | 0 | 1 | 2 | 3 | 5 => rfl
    | 4 => rfl
    | i + 6 => rfl
  rw [e] at this
  exact this
theorem dkl_off (h : Has o w0 w (DkL db a L)) (b : Bool) : Has o w0 (w.setCell ⟨db, 5, none⟩ (.bool b)) (DkL db { a with off := b } L) := by
  have := (h.dkCell (i := 5) (by omega)).2.2 (.bool b)
  have e : upd (dkCells L a) 5 (.bool b) = dkCells L { a with off := b } := by
    funext i
    unfold upd
    match i with
    | 0 | 1 | 2 | 3 | 4 => rfl
    | 5 => rfl
    | i + 6 => rfl
  rw [e] at this
  exact this

theorem dkl_now (h : Has o w0 w (DkL db a L)) : MapAt w L.mb (dirV L.addr a.now) := by
  obtain ⟨o', h', _⟩ := h.dkNow
  exact h'.mapAt

theorem dkl_file (h : Has o w0 w (DkL db a L)) {i : Nat} (hi : i < a.fs.length) : ∃ o', Has o' w w (fileP (L.addr i) (L.bv i) (a.file i)) ∧
    ∀ w' v x, Has o' w w' (fileP (L.addr i) v x) → Has o w0 w' (DkL db { a with fs := a.fs.set i x } { L with bv := fun j => if j = i then v else L.bv j }) := by
  obtain ⟨o', h', back⟩ := h.dkFile hi
  refine ⟨o', h', fun w' v x hx => ?_⟩
  have := back w' _ hx
  have e : updP (fun i => fileP (L.addr i) (L.bv i) (a.file i)) i (fileP (L.addr i) v x) = fun j => fileP (L.addr j) (if j = i then v else L.bv j) (if j = i then x else a.file j) := by
    funext j
    unfold updP
    by_cases e : j = i
    · subst e; simp
    · simp [if_neg e]
  rw [e] at this
  unfold DkL
  have e2 : ∀ j, j < a.fs.length → (if j = i then x else a.file j) = ({ a with fs := a.fs.set i x } : ADk).file j := by
    intro j hj
    unfold ADk.file
    rw [List.getD_eq_getElem?_getD, List.getD_eq_getElem?_getD, List.getElem?_set]
    by_cases e : i = j
    · subst e; simp [hj]
    · rw [if_neg e, if_neg (fun h => e h.symm)]
  obtain ⟨o2, h2, b2⟩ := this.dkFiles
  have h3 := b2 _ (a.fs.set i x).length (fun j => fileP (L.addr j) (if j = i then v else L.bv j) (({ a with fs := a.fs.set i x } : ADk).file j)) (by
    rw [List.length_set]
    exact h2.congr fun j hj => by rw [e2 j hj])
  exact h3

end Go.Proofs.Ytbankfdgoolbdaa
namespace Go.Proofs.Ytbankfdgoolbdaa
open Go Go.Shelf Go.RowKit Go.Sort Go.Proofs
def sh_laysGw17_ren : Go.Shelf.Ren := ⟨fun | 17 => 29 | 15 => 51 | 20 => 62 | n => n, fun | 9 => 9 | 23 => 57 | 4 => 4 | 3 => 3 | 0 => 0 | 21 => 21 | n => n, fun | n => n⟩
theorem sh_laysGw17 : Go.Proofs.LaysGw.n17 Try.prog sh_laysGw17_ren := {
  mixed := by kernel_rfl
  f15 := Try.func51.trans (congrArg some (by kernel_rfl))
  f17 := Try.func29.trans (congrArg some (by kernel_rfl))
  f20 := Try.func62.trans (congrArg some (by kernel_rfl))
  t0 := Try.underlying0
  a0 := Try.isAgg0
  z0 := Try.sizeOf0
  v0 := Try.zeroValue0
  i0 := by kernel_rfl
  t3 := Try.underlying3
  a3 := Try.isAgg3
  z3 := Try.sizeOf3
  v3 := Try.zeroValue3
  i3 := by kernel_rfl
  t4 := Try.underlying4
  a4 := Try.isAgg4
  z4 := Try.sizeOf4
  v4 := Try.zeroValue4
  i4 := by kernel_rfl
  t9 := Try.underlying9
  a9 := Try.isAgg9
  z9 := Try.sizeOf9
  v9 := Try.zeroValue9
  i9 := by kernel_rfl
  t21 := Try.underlying21
  a21 := Try.isAgg21
  z21 := Try.sizeOf21
  v21 := Try.zeroValue21
  i21 := by kernel_rfl
  t23 := Try.underlying57
  a23 := Try.isAgg57
  z23 := Try.sizeOf57
  v23 := Try.zeroValue57
  i23 := by kernel_rfl }
theorem sh_strings_ContainsFunc (g : Nat) (lb : Array Value) (eg : ∀ args w, (callFunc g args).run Try.prog w = .ok (.enter g args) w) (p : Nat → Bool) (s : ByteArray) (w : World) (hp : PredAt Try.prog g lb encR p w) :
    Calls Try.prog 29 #[.string s, .func (.func g) #[] lb] w fun e w' => e = .returned (.bool (decide (0 ≤ Lib.idxFunc p true s))) ∧ Below w.heap.size w w' := Any.strings_ContainsFunc sh_laysGw17 g lb eg p s w hp
def sh_keys39_ren : Go.Shelf.Ren := ⟨fun | 7 => 39 | 10 => 56 | n => n, fun | 23 => 60 | 26 => 9 | 3 => 69 | 28 => 76 | 0 => 0 | 27 => 75 | 33 => 24 | 4 => 4 | n => n, fun | n => n⟩
theorem sh_keys39 : Go.Proofs.SlLaysZ.n7 Try.prog sh_keys39_ren := {
  mixed := by kernel_rfl
  f7 := ⟨Try.f39.name, by decide, Try.func39.trans (congrArg some (by kernel_rfl))⟩
  f10 := ⟨Try.f56.name, by decide, Try.func56.trans (congrArg some (by kernel_rfl))⟩
  t0 := Try.underlying0
  a0 := Try.isAgg0
  z0 := Try.sizeOf0
  v0 := Try.zeroValue0
  t4 := Try.underlying4
  a4 := Try.isAgg4
  z4 := Try.sizeOf4
  v4 := Try.zeroValue4
  t23 := Try.underlying60
  a23 := Try.isAgg60
  z23 := Try.sizeOf60
  v23 := Try.zeroValue60
  t26 := Try.underlying9
  a26 := Try.isAgg9
  z26 := Try.sizeOf9
  v26 := Try.zeroValue9
  t27 := Try.underlying75
  a27 := Try.isAgg75
  z27 := Try.sizeOf75
  v27 := Try.zeroValue75
  t28 := Try.underlying76
  a28 := Try.isAgg76
  z28 := Try.sizeOf76
  v28 := Try.zeroValue76
  t33 := Try.underlying24
  a33 := Try.isAgg24
  z33 := Try.sizeOf24
  v33 := Try.zeroValue24 }
def sh_sorted38_ren : Go.Shelf.Ren := ⟨fun | 6 => 38 | 8 => 54 | 9 => 55 | 11 => 63 | 13 => 65 | 12 => 64 | 23 => 77 | 24 => 78 | 14 => 68 | 15 => 69 | 16 => 70 | 17 => 71 | 18 => 72 | 19 => 73 | 20 => 74 | 21 => 75 | 22 => 76 | 25 => 79 | 26 => 80 | 27 => 81 | 28 => 82 | 29 => 83 | 30 => 84 | 31 => 85 | n => n, fun | 26 => 9 | 28 => 76 | 24 => 22 | 0 => 0 | 3 => 3 | 37 => 102 | 48 => 114 | 50 => 116 | 4 => 4 | 40 => 107 | 39 => 106 | 45 => 111 | 5 => 5 | 9 => 9 | 51 => 117 | 55 => 121 | 57 => 123 | 58 => 124 | 33 => 24 | n => n, fun | n => n⟩
theorem sh_sorted38 : Go.Proofs.SlLaysZ.n6 Try.prog sh_sorted38_ren := {
  mixed := by kernel_rfl
  f6 := ⟨Try.f38.name, by decide, Try.func38.trans (congrArg some (by kernel_rfl))⟩
  f8 := ⟨Try.f54.name, by decide, Try.func54.trans (congrArg some (by kernel_rfl))⟩
  f11 := ⟨Try.f63.name, by decide, Try.func63.trans (congrArg some (by kernel_rfl))⟩
  t0 := Try.underlying0
  a0 := Try.isAgg0
  z0 := Try.sizeOf0
  v0 := Try.zeroValue0
  t24 := Try.underlying22
  a24 := Try.isAgg22
  z24 := Try.sizeOf22
  v24 := Try.zeroValue22
  t26 := Try.underlying9
  a26 := Try.isAgg9
  z26 := Try.sizeOf9
  v26 := Try.zeroValue9
  t28 := Try.underlying76
  a28 := Try.isAgg76
  z28 := Try.sizeOf76
  v28 := Try.zeroValue76
  i26 := by kernel_rfl }
def sh_sort55_ren : Go.Shelf.Ren := ⟨fun | 6 => 55 | 8 => 65 | 9 => 64 | 19 => 77 | 20 => 78 | 21 => 68 | 22 => 69 | 23 => 70 | 24 => 71 | 25 => 72 | 26 => 73 | 27 => 74 | 28 => 75 | 29 => 76 | 36 => 79 | 31 => 80 | 32 => 81 | 37 => 82 | 38 => 83 | 39 => 84 | 41 => 85 | n => n, fun | 27 => 22 | 29 => 9 | 3 => 3 | 32 => 102 | 26 => 22 | 0 => 0 | 44 => 114 | 46 => 116 | 4 => 4 | 36 => 107 | 35 => 106 | 41 => 111 | 5 => 5 | 9 => 9 | 53 => 117 | 57 => 121 | 63 => 123 | 64 => 124 | n => n, fun | n => n⟩
theorem sh_sort55 : Go.Proofs.SlLaysM.n6 Try.prog sh_sort55_ren := {
  mixed := by kernel_rfl
  f6 := ⟨Try.f55.name, by decide, Try.func55.trans (congrArg some (by kernel_rfl))⟩
  f8 := Try.func65.trans (congrArg some (by kernel_rfl))
  f9 := ⟨Try.f64.name, by decide, Try.func64.trans (congrArg some (by kernel_rfl))⟩
  f19 := Try.func77.trans (congrArg some (by kernel_rfl))
  f20 := Try.func78.trans (congrArg some (by kernel_rfl))
  f21 := ⟨Try.f68.name, by decide, Try.func68.trans (congrArg some (by kernel_rfl))⟩
  f22 := ⟨Try.f69.name, by decide, Try.func69.trans (congrArg some (by kernel_rfl))⟩
  f23 := ⟨Try.f70.name, by decide, Try.func70.trans (congrArg some (by kernel_rfl))⟩
  f24 := ⟨Try.f71.name, by decide, Try.func71.trans (congrArg some (by kernel_rfl))⟩
  f25 := ⟨Try.f72.name, by decide, Try.func72.trans (congrArg some (by kernel_rfl))⟩
  f26 := ⟨Try.f73.name, by decide, Try.func73.trans (congrArg some (by kernel_rfl))⟩
  f27 := ⟨Try.f74.name, by decide, Try.func74.trans (congrArg some (by kernel_rfl))⟩
  f28 := ⟨Try.f75.name, by decide, Try.func75.trans (congrArg some (by kernel_rfl))⟩
  f29 := ⟨Try.f76.name, by decide, Try.func76.trans (congrArg some (by kernel_rfl))⟩
  f31 := Try.func80.trans (congrArg some (by kernel_rfl))
  f32 := Try.func81.trans (congrArg some (by kernel_rfl))
  f36 := ⟨Try.f79.name, by decide, Try.func79.trans (congrArg some (by kernel_rfl))⟩
  f37 := ⟨Try.f82.name, by decide, Try.func82.trans (congrArg some (by kernel_rfl))⟩
  f38 := ⟨Try.f83.name, by decide, Try.func83.trans (congrArg some (by kernel_rfl))⟩
  f39 := ⟨Try.f84.name, by decide, Try.func84.trans (congrArg some (by kernel_rfl))⟩
  f41 := ⟨Try.f85.name, by decide, Try.func85.trans (congrArg some (by kernel_rfl))⟩
  t0 := Try.underlying0
  a0 := Try.isAgg0
  z0 := Try.sizeOf0
  v0 := Try.zeroValue0
  t3 := Try.underlying3
  a3 := Try.isAgg3
  z3 := Try.sizeOf3
  v3 := Try.zeroValue3
  t4 := Try.underlying4
  a4 := Try.isAgg4
  z4 := Try.sizeOf4
  v4 := Try.zeroValue4
  t5 := Try.underlying5
  a5 := Try.isAgg5
  z5 := Try.sizeOf5
  v5 := Try.zeroValue5
  t9 := Try.underlying9
  a9 := Try.isAgg9
  z9 := Try.sizeOf9
  v9 := Try.zeroValue9
  t26 := Try.underlying22
  a26 := Try.isAgg22
  z26 := Try.sizeOf22
  v26 := Try.zeroValue22
  t27 := Try.underlying22
  a27 := Try.isAgg22
  z27 := Try.sizeOf22
  v27 := Try.zeroValue22
  t29 := Try.underlying9
  a29 := Try.isAgg9
  z29 := Try.sizeOf9
  v29 := Try.zeroValue9
  t32 := Try.underlying102
  a32 := Try.isAgg102
  z32 := Try.sizeOf102
  v32 := Try.zeroValue102
  t35 := Try.underlying106
  a35 := Try.isAgg106
  z35 := Try.sizeOf106
  v35 := Try.zeroValue106
  t36 := Try.underlying107
  a36 := Try.isAgg107
  z36 := Try.sizeOf107
  v36 := Try.zeroValue107
  t41 := Try.underlying111
  a41 := Try.isAgg111
  z41 := Try.sizeOf111
  v41 := Try.zeroValue111
  t44 := Try.underlying114
  a44 := Try.isAgg114
  z44 := Try.sizeOf114
  v44 := Try.zeroValue114
  t46 := Try.underlying116
  a46 := Try.isAgg116
  z46 := Try.sizeOf116
  v46 := Try.zeroValue116
  t53 := Try.underlying117
  a53 := Try.isAgg117
  z53 := Try.sizeOf117
  v53 := Try.zeroValue117
  t57 := Try.underlying121
  a57 := Try.isAgg121
  z57 := Try.sizeOf121
  v57 := Try.zeroValue121
  t63 := Try.underlying123
  a63 := Try.isAgg123
  z63 := Try.sizeOf123
  v63 := Try.zeroValue123
  t64 := Try.underlying124
  a64 := Try.isAgg124
  z64 := Try.sizeOf124
  v64 := Try.zeroValue124 }
def sh_clone36_ren : Go.Shelf.Ren := ⟨fun | 5 => 36 | 7 => 53 | n => n, fun | 23 => 60 | 25 => 9 | 3 => 69 | 4 => 4 | 20 => 20 | n => n, fun | n => n⟩
theorem sh_clone36 : Go.Proofs.SlLaysW.n5 Try.prog sh_clone36_ren := {
  mixed := by kernel_rfl
  f5 := ⟨Try.f36.name, by decide, Try.func36.trans (congrArg some (by kernel_rfl))⟩
  f7 := Try.func53.trans (congrArg some (by kernel_rfl))
  t4 := Try.underlying4
  a4 := Try.isAgg4
  z4 := Try.sizeOf4
  v4 := Try.zeroValue4
  t20 := Try.underlying20
  a20 := Try.isAgg20
  z20 := Try.sizeOf20
  v20 := Try.zeroValue20
  t23 := Try.underlying60
  a23 := Try.isAgg60
  z23 := Try.sizeOf60
  v23 := Try.zeroValue60 }
def sh_clone37_ren : Go.Shelf.Ren := ⟨fun | 41 => 37 | n => n, fun | 22 => 27 | 23 => 5 | 4 => 4 | n => n, fun | n => n⟩
theorem sh_clone37 : Go.Proofs.SlLaysE0.n41 Try.prog sh_clone37_ren := {
  mixed := by kernel_rfl
  f41 := ⟨Try.f37.name, by decide, Try.func37.trans (congrArg some (by kernel_rfl))⟩
  t4 := Try.underlying4
  a4 := Try.isAgg4
  z4 := Try.sizeOf4
  v4 := Try.zeroValue4
  t22 := Try.underlying27
  a22 := Try.isAgg27
  z22 := Try.sizeOf27
  v22 := Try.zeroValue27 }
end Go.Proofs.Ytbankfdgoolbdaa
namespace Go.Proofs.Ytbankfdgoolbdaa
open Go Go.RowKit Go.Lib
set_option linter.unusedVariables false

/-- A rune that may not be in a name. -/
def oddR (r : Nat) : Bool := (decide (r < 97) || decide (122 < r)) && (decide (r < 65) || decide (90 < r)) && (decide (r < 48) || decide (57 < r)) && !(r == 45) && !(r == 46)

set_option maxHeartbeats 1000000 in
theorem odd_walk0 (r : Nat) (W : World) (h : r < 45) : Calls Try.prog 28 #[.int .i32 r] W fun e w' => e = .returned (.bool true) ∧ ∃ q, w' = W.drewN q := by
  have c0 : ((r : Int) < 97) ↔ True := by simp; omega
  have c1 : (122 < (r : Int)) ↔ False := by simp; omega
  have c2 : ((r : Int) < 65) ↔ True := by simp; omega
  have c3 : (90 < (r : Int)) ↔ False := by simp; omega
  have c4 : ((r : Int) < 48) ↔ True := by simp; omega
  have c5 : (57 < (r : Int)) ↔ False := by simp; omega
  have c6 : ((r : Int) != 45) = true := by simp; omega
  have c7 : ((r : Int) != 46) = true := by simp; omega
  clear h
  go_enter Try.func28, Try.ntmps28
  go_wp2
  go_ret
  exact ⟨rfl, 0, rfl⟩

set_option maxHeartbeats 1000000 in
theorem odd_walk1 (r : Nat) (W : World) (h : r = 45) : Calls Try.prog 28 #[.int .i32 r] W fun e w' => e = .returned (.bool false) ∧ ∃ q, w' = W.drewN q := by
  have c0 : ((r : Int) < 97) ↔ True := by simp; omega
  have c1 : (122 < (r : Int)) ↔ False := by simp; omega
  have c2 : ((r : Int) < 65) ↔ True := by simp; omega
  have c3 : (90 < (r : Int)) ↔ False := by simp; omega
  have c4 : ((r : Int) < 48) ↔ True := by simp; omega
  have c5 : (57 < (r : Int)) ↔ False := by simp; omega
  have c6 : ((r : Int) != 45) = false := by simp; omega
  have c7 : ((r : Int) != 46) = true := by simp; omega
  clear h
  go_enter Try.func28, Try.ntmps28
  go_wp2
  go_ret
  exact ⟨rfl, 0, rfl⟩

set_option maxHeartbeats 1000000 in
theorem odd_walk2 (r : Nat) (W : World) (h : r = 46) : Calls Try.prog 28 #[.int .i32 r] W fun e w' => e = .returned (.bool false) ∧ ∃ q, w' = W.drewN q := by
  have c0 : ((r : Int) < 97) ↔ True := by simp; omega
  have c1 : (122 < (r : Int)) ↔ False := by simp; omega
  have c2 : ((r : Int) < 65) ↔ True := by simp; omega
  have c3 : (90 < (r : Int)) ↔ False := by simp; omega
  have c4 : ((r : Int) < 48) ↔ True := by simp; omega
  have c5 : (57 < (r : Int)) ↔ False := by simp; omega
  have c6 : ((r : Int) != 45) = true := by simp; omega
  have c7 : ((r : Int) != 46) = false := by simp; omega
  clear h
  go_enter Try.func28, Try.ntmps28
  go_wp2
  go_ret
  exact ⟨rfl, 0, rfl⟩

set_option maxHeartbeats 1000000 in
theorem odd_walk3 (r : Nat) (W : World) (h : r = 47) : Calls Try.prog 28 #[.int .i32 r] W fun e w' => e = .returned (.bool true) ∧ ∃ q, w' = W.drewN q := by
  have c0 : ((r : Int) < 97) ↔ True := by simp; omega
  have c1 : (122 < (r : Int)) ↔ False := by simp; omega
  have c2 : ((r : Int) < 65) ↔ True := by simp; omega
  have c3 : (90 < (r : Int)) ↔ False := by simp; omega
  have c4 : ((r : Int) < 48) ↔ True := by simp; omega
  have c5 : (57 < (r : Int)) ↔ False := by simp; omega
  have c6 : ((r : Int) != 45) = true := by simp; omega
  have c7 : ((r : Int) != 46) = true := by simp; omega
  clear h
  go_enter Try.func28, Try.ntmps28
  go_wp2
  go_ret
  exact ⟨rfl, 0, rfl⟩

set_option maxHeartbeats 1000000 in
theorem odd_walk4 (r : Nat) (W : World) (h : 48 ≤ r ∧ r ≤ 57) : Calls Try.prog 28 #[.int .i32 r] W fun e w' => e = .returned (.bool false) ∧ ∃ q, w' = W.drewN q := by
  have c0 : ((r : Int) < 97) ↔ True := by simp; omega
  have c1 : (122 < (r : Int)) ↔ False := by simp; omega
  have c2 : ((r : Int) < 65) ↔ True := by simp; omega
  have c3 : (90 < (r : Int)) ↔ False := by simp; omega
  have c4 : ((r : Int) < 48) ↔ False := by simp; omega
  have c5 : (57 < (r : Int)) ↔ False := by simp; omega
  have c6 : ((r : Int) != 45) = true := by simp; omega
  have c7 : ((r : Int) != 46) = true := by simp; omega
  clear h
  go_enter Try.func28, Try.ntmps28
  go_wp2
  go_ret
  exact ⟨rfl, 0, rfl⟩

set_option maxHeartbeats 1000000 in
theorem odd_walk5 (r : Nat) (W : World) (h : 58 ≤ r ∧ r ≤ 64) : Calls Try.prog 28 #[.int .i32 r] W fun e w' => e = .returned (.bool true) ∧ ∃ q, w' = W.drewN q := by
  have c0 : ((r : Int) < 97) ↔ True := by simp; omega
  have c1 : (122 < (r : Int)) ↔ False := by simp; omega
  have c2 : ((r : Int) < 65) ↔ True := by simp; omega
  have c3 : (90 < (r : Int)) ↔ False := by simp; omega
  have c4 : ((r : Int) < 48) ↔ False := by simp; omega
  have c5 : (57 < (r : Int)) ↔ True := by simp; omega
  have c6 : ((r : Int) != 45) = true := by simp; omega
  have c7 : ((r : Int) != 46) = true := by simp; omega
  clear h
  go_enter Try.func28, Try.ntmps28
  go_wp2
  go_ret
  exact ⟨rfl, 0, rfl⟩

set_option maxHeartbeats 1000000 in
theorem odd_walk6 (r : Nat) (W : World) (h : 65 ≤ r ∧ r ≤ 90) : Calls Try.prog 28 #[.int .i32 r] W fun e w' => e = .returned (.bool false) ∧ ∃ q, w' = W.drewN q := by
  have c0 : ((r : Int) < 97) ↔ True := by simp; omega
  have c1 : (122 < (r : Int)) ↔ False := by simp; omega
  have c2 : ((r : Int) < 65) ↔ False := by simp; omega
  have c3 : (90 < (r : Int)) ↔ False := by simp; omega
  have c4 : ((r : Int) < 48) ↔ False := by simp; omega
  have c5 : (57 < (r : Int)) ↔ True := by simp; omega
  have c6 : ((r : Int) != 45) = true := by simp; omega
  have c7 : ((r : Int) != 46) = true := by simp; omega
  clear h
  go_enter Try.func28, Try.ntmps28
  go_wp2
  go_ret
  exact ⟨rfl, 0, rfl⟩

set_option maxHeartbeats 1000000 in
theorem odd_walk7 (r : Nat) (W : World) (h : 91 ≤ r ∧ r ≤ 96) : Calls Try.prog 28 #[.int .i32 r] W fun e w' => e = .returned (.bool true) ∧ ∃ q, w' = W.drewN q := by
  have c0 : ((r : Int) < 97) ↔ True := by simp; omega
  have c1 : (122 < (r : Int)) ↔ False := by simp; omega
  have c2 : ((r : Int) < 65) ↔ False := by simp; omega
  have c3 : (90 < (r : Int)) ↔ True := by simp; omega
  have c4 : ((r : Int) < 48) ↔ False := by simp; omega
  have c5 : (57 < (r : Int)) ↔ True := by simp; omega
  have c6 : ((r : Int) != 45) = true := by simp; omega
  have c7 : ((r : Int) != 46) = true := by simp; omega
  clear h
  go_enter Try.func28, Try.ntmps28
  go_wp2
  go_ret
  exact ⟨rfl, 0, rfl⟩

set_option maxHeartbeats 1000000 in
theorem odd_walk8 (r : Nat) (W : World) (h : 97 ≤ r ∧ r ≤ 122) : Calls Try.prog 28 #[.int .i32 r] W fun e w' => e = .returned (.bool false) ∧ ∃ q, w' = W.drewN q := by
  have c0 : ((r : Int) < 97) ↔ False := by simp; omega
  have c1 : (122 < (r : Int)) ↔ False := by simp; omega
  have c2 : ((r : Int) < 65) ↔ False := by simp; omega
  have c3 : (90 < (r : Int)) ↔ True := by simp; omega
  have c4 : ((r : Int) < 48) ↔ False := by simp; omega
  have c5 : (57 < (r : Int)) ↔ True := by simp; omega
  have c6 : ((r : Int) != 45) = true := by simp; omega
  have c7 : ((r : Int) != 46) = true := by simp; omega
  clear h
  go_enter Try.func28, Try.ntmps28
  go_wp2
  go_ret
  exact ⟨rfl, 0, rfl⟩

set_option maxHeartbeats 1000000 in
theorem odd_walk9 (r : Nat) (W : World) (h : 123 ≤ r) : Calls Try.prog 28 #[.int .i32 r] W fun e w' => e = .returned (.bool true) ∧ ∃ q, w' = W.drewN q := by
  have c0 : ((r : Int) < 97) ↔ False := by simp; omega
  have c1 : (122 < (r : Int)) ↔ True := by simp; omega
  have c2 : ((r : Int) < 65) ↔ False := by simp; omega
  have c3 : (90 < (r : Int)) ↔ True := by simp; omega
  have c4 : ((r : Int) < 48) ↔ False := by simp; omega
  have c5 : (57 < (r : Int)) ↔ True := by simp; omega
  have c6 : ((r : Int) != 45) = true := by simp; omega
  have c7 : ((r : Int) != 46) = true := by simp; omega
  clear h
  go_enter Try.func28, Try.ntmps28
  go_wp2
  go_ret
  exact ⟨rfl, 0, rfl⟩

theorem odd_pred (w : World) : PredAt Try.prog 28 #[] encR oddR w := fun W r _ => by
  show Calls Try.prog 28 #[.int .i32 r] W fun e w' => e = .returned (.bool (oddR r)) ∧ ∃ q, w' = W.drewN q
  by_cases h0 : r < 45
  · have e : oddR r = true := by simp [oddR]; omega
    rw [e]; exact odd_walk0 r W h0
  by_cases h1 : r = 45
  · have e : oddR r = false := by simp [oddR]; omega
    rw [e]; exact odd_walk1 r W h1
  by_cases h2 : r = 46
  · have e : oddR r = false := by simp [oddR]; omega
    rw [e]; exact odd_walk2 r W h2
  by_cases h3 : r = 47
  · have e : oddR r = true := by simp [oddR]; omega
    rw [e]; exact odd_walk3 r W h3
  by_cases h4 : 48 ≤ r ∧ r ≤ 57
  · have e : oddR r = false := by simp [oddR]; omega
    rw [e]; exact odd_walk4 r W h4
  by_cases h5 : 58 ≤ r ∧ r ≤ 64
  · have e : oddR r = true := by simp [oddR]; omega
    rw [e]; exact odd_walk5 r W h5
  by_cases h6 : 65 ≤ r ∧ r ≤ 90
  · have e : oddR r = false := by simp [oddR]; omega
    rw [e]; exact odd_walk6 r W h6
  by_cases h7 : 91 ≤ r ∧ r ≤ 96
  · have e : oddR r = true := by simp [oddR]; omega
    rw [e]; exact odd_walk7 r W h7
  by_cases h8 : 97 ≤ r ∧ r ≤ 122
  · have e : oddR r = false := by simp [oddR]; omega
    rw [e]; exact odd_walk8 r W h8
  by_cases h9 : 123 ≤ r
  · have e : oddR r = true := by simp [oddR]; omega
    rw [e]; exact odd_walk9 r W h9
  omega

/-- A byte may be in a name just if the rune it is may. -/
theorem okByte_odd (c : UInt8) : okByte c = !(oddR c.toNat) := by
  have h := c.toNat_lt
  have e1 : ∀ k : UInt8, (k ≤ c) = (k.toNat ≤ c.toNat) := fun k => propext UInt8.le_iff_toNat_le
  have e2 : ∀ k : UInt8, (c ≤ k) = (c.toNat ≤ k.toNat) := fun k => propext UInt8.le_iff_toNat_le
  have e3 : ∀ k : UInt8, (c == k) = (c.toNat == k.toNat) := fun k => by
    rw [Bool.eq_iff_iff]; simp [UInt8.toNat_inj]
  unfold okByte oddR
  simp only [e1, e2, e3]
  rw [Bool.eq_iff_iff]
  simp
  try omega

theorem idx_names (s : ByteArray) : ∀ (f pos : Nat), s.size ≤ pos + f → (decide (0 ≤ idxFuncFrom oddR true s f pos)) = !((s.data.toList.drop pos).all okByte)
  | 0, pos, h => by
    have : s.data.toList.length ≤ pos := by simpa using h
    rw [List.drop_of_length_le this]
    simp [idxFuncFrom]
  | f + 1, pos, h => by
    unfold idxFuncFrom
    by_cases hp : pos < s.size
    · rw [if_pos hp]
      have hd : s.data.toList.drop pos = s[pos]'hp :: s.data.toList.drop (pos + 1) := by
        have := List.drop_eq_getElem_cons (l := s.data.toList) (i := pos) (by simpa using hp)
        rw [this]
        rfl
      rw [hd, List.all_cons, okByte_odd]
      by_cases ha : (s[pos]'hp).toNat < 128
      · rw [decode_ascii s pos hp ha]
        simp only
        by_cases ho : oddR (s[pos]'hp).toNat = true
        · rw [if_pos ho, ho]; simp
        · rw [if_neg ho, Bool.not_eq_true _ |>.mp ho]
          simp only [Bool.not_false, Bool.true_and]
          exact idx_names s f (pos + 1) (by omega)
      · have h1 := (decode_high s pos hp (by omega)).1
        have ho1 : oddR (Utf8.decode s pos).1 = true := by simp [oddR]; omega
        have ho2 : oddR (s[pos]'hp).toNat = true := by simp [oddR]; omega
        rw [if_pos ho1, ho2]
        simp
    · rw [if_neg hp]
      have : s.data.toList.length ≤ pos := by simpa using hp
      rw [List.drop_of_length_le this]
      simp

theorem eg_odd : ∀ args w, (callFunc 28 args).run Try.prog w = .ok (.enter 28 args) w := enters_of Try.func28 (by kernel_rfl) rfl

/-- IsName. -/
theorem isName_walk (s : ByteArray) (w : World) : Calls Try.prog 9 #[.string s] w fun e w' => e = .returned (.bool (isNm s.data.toList)) ∧ Kept [] w w' := by
  have hC := fun W => sh_strings_ContainsFunc 28 #[] eg_odd oddR s W (odd_pred W)
  have hr := idx_names s s.size 0 (by omega)
  rw [List.drop_zero] at hr
  have hlen : s.data.toList.length = s.size := by simp
  have hN : Hid (isNm s.data.toList = (decide (1 ≤ s.size) && decide (s.size ≤ 16) && s.data.toList.all okByte)) := Lib.hid (by unfold isNm; rw [hlen])
  have hR : Hid (decide (0 ≤ idxFunc oddR true s) = !(s.data.toList.all okByte)) := Lib.hid hr
  clear hr hlen
  have hsz : s.data.toList.length = s.size := by simp
  by_cases h0 : s.size = 0
  · have tE : s.toList.isEmpty = true := by rw [ByteArray.toList_eq]; cases hl : s.data.toList with | nil => rfl | cons _ _ => rw [hl] at hsz; simp at hsz; omega
    have tE2 : (s.toList = []) ↔ True := by simpa using tE
    clear hsz
    have h0' := Lib.hid h0
    clear h0
    go_enter Try.func9, Try.ntmps9
    go_wp2
    go_ret
    refine ⟨?_, (Kept.refl _ w).drewN 0⟩
    rw [hN.out, h0'.out]
    rfl
  · have h1 : 1 ≤ s.size := by omega
    have tE : s.toList.isEmpty = false := by rw [ByteArray.toList_eq]; cases hl : s.data.toList with | nil => rw [hl] at hsz; simp at hsz; omega | cons _ _ => rfl
    have tE2 : (s.toList = []) ↔ False := by simpa using tE
    clear hsz
    by_cases h2 : s.size ≤ 16
    · have hb2 : ((s.size : Int) ≤ 16) ↔ True := by simp; omega
      clear h0
      go_enter Try.func9, Try.ntmps9
      go_wp2_with (go_at_call 29; refine (hC _).mono ?_; rintro e w' ⟨rfl, hb⟩)
      rw [hR.out]
      go_wp2
      go_ret
      refine ⟨?_, .of_below hb⟩
      rw [hN.out, decide_eq_true h1, decide_eq_true h2]
      simp
    · have hb2 : ((s.size : Int) ≤ 16) ↔ False := by simp; omega
      clear h0
      go_enter Try.func9, Try.ntmps9
      go_wp2
      go_ret
      refine ⟨?_, (Kept.refl _ w).drewN 0⟩
      rw [hN.out, decide_eq_false h2]
      simp

end Go.Proofs.Ytbankfdgoolbdaa
namespace Go.Proofs.Ytbankfdgoolbdaa
open Go Go.RowKit Go.Lib
set_option linter.unusedVariables false

theorem dk_empty (w : World) (lv : Value) (hlv : lv = .slice none 0 0) (fp bp : Nat → Part) : Has [] w w ((Part.row 68 1 lv ([] : List Value).length []).sep ((Part.all 0 fp).sep (Part.all 0 bp))) := by
  subst hlv
  have h1 : Has [] w w (.row 68 1 (.slice none 0 0) 0 []) := ⟨[], ⟨World.ownsRow_nil _ _ _ _, by simp [rowsOf, Value.ownBlock]⟩, by simp, Kept.refl _ _⟩
  exact h1.beside ((Has.nothing fp).beside (Has.nothing bp))

def newLay (mb ob : Nat) : DLay := ⟨mb, ob, .slice none 0 0, fun _ => 0, fun _ => .slice none 0 0, fun _ => 0, fun _ => 0⟩

theorem new_walk (w : World) : Calls Try.prog 11 #[] w fun e w' => ∃ db, e = .returned (ptr db) ∧ w.heap.size ≤ db ∧ Has [] w w' (Dk db ADk.new) := by
  have hmm := @run_makeMap Try.prog
  go_enter Try.func11, Try.ntmps11
  go_wp2
  go_ret
  refine ⟨w.heap.size + 1 + 1, rfl, by omega, dk_shut ADk.new_ok (newLay w.heap.size (w.heap.size + 1)) ?_⟩
  have hM := Has.madeMap w
  have hO := Has.madeMap (w.alloc (.map #[] 0))
  have hX := dk_empty ((w.alloc (.map #[] 0)).alloc (.map #[] 0)) (.slice none 0 0) rfl (fun i => fileP ((newLay w.heap.size (w.heap.size + 1)).addr i) ((newLay w.heap.size (w.heap.size + 1)).bv i) (ADk.new.file i)) (fun j => boxP (newLay w.heap.size (w.heap.size + 1)).addr ((newLay w.heap.size (w.heap.size + 1)).b1 j) ((newLay w.heap.size (w.heap.size + 1)).b2 j) (ADk.new.log.getD j (.del [])))
  have h1 := hM.beside (hO.beside hX)
  have hS := Has.madeBlk (w := (w.alloc (.map #[] 0)).alloc (.map #[] 0)) #[.map (some w.heap.size), .map (some (w.heap.size + 1)), .slice none 0 0, .int .i64 0, .int .i64 (-1), .bool false] 63
    (dkCells (newLay w.heap.size (w.heap.size + 1)) ADk.new) 6 rfl (by
      intro i hi
      match i with
      | 0 | 1 | 2 | 3 | 4 | 5 => rfl
      | i + 6 => omega)
  have h2 := (h1.beside hS).swap
  have e1 : (w.alloc (.map #[] 0)).heap.size = w.heap.size + 1 := by simp
  have e2 : ((w.alloc (.map #[] 0)).alloc (.map #[] 0)).heap.size = w.heap.size + 1 + 1 := by simp
  rw [e1, e2] at h2
  exact h2

theorem cutAt_walk {o : List Nat} {w0 w : World} {db : Nat} {a : ADk} (h : Has o w0 w (Dk db a)) (n : Int) : Calls Try.prog 23 #[ptr db, .int .i64 n] w fun e w' => e = .returned (.tuple #[]) ∧ Has o w0 w' (Dk db (a.cutAt n)) := by
  obtain ⟨ha, L, hL⟩ := dk_open h
  obtain ⟨c4, f4⟩ := dkl_cell hL 4 (by omega)
  obtain ⟨c5, f5⟩ := dkl_cell hL 5 (by omega)
  have hP := Lib.hid (dk_shut (a.cutAt_ok ha n) L (dkl_off (dkl_cut hL n) false))
  clear hL h ha
  unfold ptr
  go_enter Try.func23, Try.ntmps23
  go_wp2
  go_end0
  exact ⟨rfl, hP.out⟩

theorem cutAt_nil (w : World) (n : Int) : Calls Try.prog 23 #[.pointer none, .int .i64 n] w fun e w' => e = .returned (.tuple #[]) ∧ Kept [] w w' := by
  go_enter Try.func23, Try.ntmps23
  go_wp2
  go_end0
  exact ⟨rfl, Kept.refl _ _⟩

theorem ops_walk {o : List Nat} {w0 w : World} {db : Nat} {a : ADk} (h : Has o w0 w (Dk db a)) : Calls Try.prog 22 #[ptr db] w fun e w' => e = .returned (.int .i64 a.ops) ∧ Kept [] w w' := by
  obtain ⟨ha, L, hL⟩ := dk_open h
  have c3 : w.cell? ⟨db, 3, none⟩ = some (.int .i64 a.ops) := (dkl_cell hL 3 (by omega)).1
  clear hL h ha
  unfold ptr
  go_enter Try.func22, Try.ntmps22
  go_wp2
  go_ret
  exact ⟨rfl, Kept.refl _ _⟩

theorem ops_nil (w : World) : Calls Try.prog 22 #[.pointer none] w fun e w' => e = .returned (.int .i64 0) ∧ Kept [] w w' := by
  go_enter Try.func22, Try.ntmps22
  go_wp2
  go_ret
  exact ⟨rfl, Kept.refl _ _⟩
end Go.Proofs.Ytbankfdgoolbdaa
