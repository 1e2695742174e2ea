/- The disk told plainly: files by number, the directory now and as it was synced, what changed since. Nothing is claimed of a program here. -/
import Derived.Test.YtbankfdgoolbdaaDkMap
namespace Go.Proofs.Ytbankfdgoolbdaa
open Go
set_option linter.unusedVariables false

structure AFile where
  b : List UInt8
  sy : Nat
deriving DecidableEq

instance : Inhabited AFile := ⟨⟨[], 0⟩⟩

abbrev Dir := List (Nm × Nat)

/-- A change of a directory: a new name of a file, a name taken away, a name changed. -/
inductive Chg where
  | mk (s : Nm) (i : Nat)
  | del (s : Nm)
  | ren (s t : Nm)
deriving DecidableEq

structure ADk where
  fs : List AFile
  now : Dir
  old : Dir
  log : List Chg
  ops : Nat
  cut : Int
  off : Bool
deriving DecidableEq

def okByte (c : UInt8) : Bool := (97 ≤ c && c ≤ 122) || (65 ≤ c && c ≤ 90) || (48 ≤ c && c ≤ 57) || c == 45 || c == 46
def isNm (s : Nm) : Bool := decide (1 ≤ s.length) && decide (s.length ≤ 16) && s.all okByte

/-- What a change makes of a directory; none: it cannot be. -/
def Chg.on (l : Dir) : Chg → Option Dir
  | .mk s i => if (alFind l s).isNone && decide (l.length < 64) then some (alPut l s i) else none
  | .del s => some (alDel l s)
  | .ren s t => (alFind l s).map fun i => alPut (alDel l s) t i

def runLog (l : Dir) : List Chg → Option Dir
  | [] => some l
  | c :: r => (c.on l).bind fun l' => runLog l' r

def ADk.new : ADk := ⟨[], [], [], [], 0, -1, false⟩

def ADk.powered (a : ADk) : ADk := { a with off := a.off || (decide (0 ≤ a.cut) && decide (a.cut ≤ a.ops)) }

/-- Why an operation cannot be done, where the power is as it is told; 0: it can. -/
def ADk.bad (a : ADk) (there : Bool) (l : List Nm) : Int :=
  if a.off then 24
  else if l.all isNm = false then 20
  else if there && (alFind a.now (l.headD [])).isNone then 21
  else if 65536 ≤ a.ops then 23 else 0

def ADk.file (a : ADk) (i : Nat) : AFile := a.fs.getD i ⟨[], 0⟩

def ADk.change (a : ADk) (c : Chg) : ADk := { a with now := (c.on a.now).getD a.now, log := a.log ++ [c] }
def ADk.did (a : ADk) : ADk := { a with ops := a.ops + 1 }

def ADk.append (a0 : ADk) (s : Nm) (b : List UInt8) : Int × ADk :=
  let a := a0.powered
  let e := a.bad false [s]
  if e ≠ 0 then (e, a) else
  match alFind a.now s with
  | none => if 64 ≤ a.now.length ∨ 262144 < b.length then (23, a) else (0, (ADk.change { a with fs := a.fs ++ [AFile.mk b 0] } (.mk s a.fs.length)).did)
  | some i => if 262144 < b.length + (a.file i).b.length then (23, a) else (0, { a with fs := a.fs.set i ⟨(a.file i).b ++ b, (a.file i).sy⟩ }.did)

def ADk.read (a : ADk) (s : Nm) : List UInt8 × Int :=
  if a.off then ([], 24) else if isNm s = false then ([], 20) else
  match alFind a.now s with
  | none => ([], 21)
  | some i => ((a.file i).b, 0)

def ADk.sync (a0 : ADk) (s : Nm) : Int × ADk :=
  let a := a0.powered
  let e := a.bad true [s]
  if e ≠ 0 then (e, a) else
  match alFind a.now s with
  | none => (0, a)
  | some i => (0, { a with fs := a.fs.set i ⟨(a.file i).b, (a.file i).b.length⟩ }.did)

def ADk.rename (a0 : ADk) (s t : Nm) : Int × ADk :=
  let a := a0.powered
  let e := a.bad true [s, t]
  if e ≠ 0 then (e, a) else (0, (a.change (.ren s t)).did)

def ADk.delete (a0 : ADk) (s : Nm) : Int × ADk :=
  let a := a0.powered
  let e := a.bad true [s]
  if e ≠ 0 then (e, a) else (0, (a.change (.del s)).did)

def ADk.syncDir (a0 : ADk) : Int × ADk :=
  let a := a0.powered
  let e := a.bad false []
  if e ≠ 0 then (e, a) else (0, { a with old := a.now, log := [] }.did)

def ADk.cutAt (a : ADk) (n : Int) : ADk := { a with cut := n, off := false }

def ADk.poke (a : ADk) (s : Nm) (at_ : Int) (b : UInt8) : Int × ADk :=
  if isNm s = false then (20, a) else
  match alFind a.now s with
  | none => (21, a)
  | some i => if at_ < 0 ∨ ((a.file i).b.length : Int) ≤ at_ then (2, a) else (0, { a with fs := a.fs.set i ⟨(a.file i).b.set at_.toNat b, (a.file i).sy⟩ })

/-- A number between 0 and n. -/
def clamp (x : Int) (n : Nat) : Nat := min x.toNat n

/-- What a crash leaves of a file. -/
def AFile.left (x : AFile) (keep tear : Int) : AFile :=
  let k := clamp keep (x.b.length - x.sy)
  let n := x.sy + k
  let t := clamp tear k
  let b := x.b.take (n - t) ++ ((x.b.take n).drop (n - t)).map (· ^^^ 255)
  ⟨b, n⟩

def ADk.crash (a : ADk) (keep dirs tear : Int) : ADk :=
  let l := (runLog a.old (a.log.take dirs.toNat)).getD []
  let d : Dir := (l.map (·.1)).zipIdx
  ⟨l.map fun p => (a.file p.2).left keep tear, d, d, [], 0, -1, false⟩

def ADk.names (a : ADk) : List Nm := a.now.map (·.1)

/-- Names rising. -/
def Rising {α : Type} (l : List (Nm × α)) : Prop := l.Pairwise fun p q => bytesBefore p.1 q.1 = true

/-- What holds of a disk at all times. -/
structure ADk.Ok (a : ADk) : Prop where
  log : runLog a.old a.log = some a.now
  old : a.old.length ≤ 64
  rise : Rising a.old
  nms : ∀ p ∈ a.old, isNm p.1 = true
  lognm : ∀ c ∈ a.log, (match c with | .mk s _ => isNm s = true | .del s => isNm s = true | .ren s t => isNm s = true ∧ isNm t = true)
  ids : ∀ p ∈ a.old, p.2 < a.fs.length
  logids : ∀ s i, Chg.mk s i ∈ a.log → i < a.fs.length
  fs : ∀ f ∈ a.fs, f.b.length ≤ 262144 ∧ f.sy ≤ f.b.length
  ops : a.ops ≤ 65536
  loglen : a.log.length ≤ a.ops

/-! ### directories -/
theorem bytesBefore_trans : ∀ {a b c : Nm}, bytesBefore a b = true → bytesBefore b c = true → bytesBefore a c = true
  | [], [], _, h, _ => by simp [bytesBefore] at h
  | [], _ :: _, [], _, h => by simp [bytesBefore] at h
  | [], _ :: _, _ :: _, _, _ => by simp [bytesBefore]
  | _ :: _, [], _, h, _ => by simp [bytesBefore] at h
  | _ :: _, _ :: _, [], _, h => by simp [bytesBefore] at h
  | x :: r, y :: s, z :: t, h, h' => by
    simp only [bytesBefore, Bool.or_eq_true, decide_eq_true_eq, Bool.and_eq_true, beq_iff_eq] at h h' ⊢
    rcases h with h | ⟨e, h⟩
    · rcases h' with h' | ⟨e', h'⟩
      · left; rw [UInt8.lt_iff_toNat_lt] at *; omega
      · left; rw [← e']; exact h
    · rcases h' with h' | ⟨e', h'⟩
      · left; rw [e]; exact h'
      · right; exact ⟨e.trans e', bytesBefore_trans h h'⟩

theorem bytesBefore_irrefl : ∀ (a : Nm), bytesBefore a a = false
  | [] => rfl
  | x :: r => by
    simp only [bytesBefore, bytesBefore_irrefl r, Bool.and_false, Bool.or_false, decide_eq_false_iff_not]
    intro h
    rw [UInt8.lt_iff_toNat_lt] at h
    omega

theorem bytesBefore_total : ∀ {a b : Nm}, bytesBefore a b = false → a ≠ b → bytesBefore b a = true
  | [], [], _, h => absurd rfl h
  | [], _ :: _, h, _ => by simp [bytesBefore] at h
  | _ :: _, [], _, _ => rfl
  | x :: r, y :: s, h, hne => by
    simp only [bytesBefore, Bool.or_eq_false_iff, decide_eq_false_iff_not, Bool.and_eq_false_iff, beq_eq_false_iff_ne, Bool.or_eq_true, decide_eq_true_eq, Bool.and_eq_true, beq_iff_eq] at h ⊢
    by_cases e : x = y
    · right
      refine ⟨e.symm, bytesBefore_total ?_ ?_⟩
      · rcases h.2 with h2 | h2
        · exact absurd e h2
        · exact h2
      · intro e2; exact hne (by rw [e, e2])
    · left
      have h1 := h.1
      rw [UInt8.lt_iff_toNat_lt] at h1 ⊢
      have : x.toNat ≠ y.toNat := fun e' => e (UInt8.toNat_inj.1 e')
      omega

section
variable {α : Type}
theorem rising_ins {x : Nm × α} {l : List (Nm × α)} (h : Rising l) (hx : ∀ p ∈ l, p.1 ≠ x.1) : Rising (alIns x l) := by
  induction l with
  | nil => simp [alIns, Rising]
  | cons y r ih =>
    have hr := List.pairwise_cons.1 h
    unfold alIns
    split
    · rename_i hb
      refine List.pairwise_cons.2 ⟨fun z hz => ?_, h⟩
      rcases List.mem_cons.1 hz with rfl | hz
      · exact hb
      · exact bytesBefore_trans hb (hr.1 z hz)
    · rename_i hb
      refine List.pairwise_cons.2 ⟨fun z hz => ?_, ih hr.2 fun p hp => hx p (by simp [hp])⟩
      rcases mem_alIns.1 hz with rfl | hz
      · exact bytesBefore_total (by simpa using hb) (hx y (by simp)).symm
      · exact hr.1 z hz
theorem rising_del {l : List (Nm × α)} (h : Rising l) (s : Nm) : Rising (alDel l s) := h.filter _
theorem rising_put {l : List (Nm × α)} (h : Rising l) (s : Nm) (v : α) : Rising (alPut l s v) :=
  rising_ins (rising_del h s) fun p hp => by simpa [alDel] using (List.mem_filter.1 hp).2
theorem Rising.inj {l : List (Nm × α)} (h : Rising l) {p q : Nm × α} (hp : p ∈ l) (hq : q ∈ l) (e : p.1 = q.1) : p = q := by
  induction l with
  | nil => cases hp
  | cons y r ih =>
    have hr := List.pairwise_cons.1 h
    rcases List.mem_cons.1 hp with rfl | hp' <;> rcases List.mem_cons.1 hq with rfl | hq'
    · rfl
    · have := hr.1 q hq'; rw [e, bytesBefore_irrefl] at this; cases this
    · have := hr.1 p hp'; rw [e, bytesBefore_irrefl] at this; cases this
    · exact ih hr.2 hp' hq'
theorem Rising.find {l : List (Nm × α)} (h : Rising l) {p : Nm × α} (hp : p ∈ l) : alFind l p.1 = some p.2 := by
  cases hf : alFind l p.1 with
  | none =>
    unfold alFind at hf
    simp only [Option.map_eq_none_iff, List.find?_eq_none] at hf
    have := hf p hp
    simp at this
  | some v =>
    have := h.inj (alFind_mem hf) hp rfl
    rw [← this]
end

/-- What each change of a log keeps. -/
theorem runLog_keeps {P : Dir → Prop} (hP : ∀ (l : Dir) (c : Chg) (l' : Dir), P l → c.on l = some l' → P l') : ∀ (L : List Chg) (l l' : Dir), P l → runLog l L = some l' → P l'
  | [], l, l', h, e => by cases e; exact h
  | c :: r, l, l', h, e => by
    simp only [runLog, Option.bind_eq_some_iff] at e
    obtain ⟨m, h1, h2⟩ := e
    exact runLog_keeps hP r m l' (hP l c m h h1) h2

theorem runLog_append (l : Dir) (L M : List Chg) : runLog l (L ++ M) = (runLog l L).bind fun l' => runLog l' M := by
  induction L generalizing l with
  | nil => rfl
  | cons c r ih =>
    simp only [List.cons_append, runLog]
    cases c.on l with
    | none => rfl
    | some m => exact ih m

theorem runLog_take {l m : Dir} {L : List Chg} (h : runLog l L = some m) (k : Nat) : ∃ l', runLog l (L.take k) = some l' := by
  rw [← List.take_append_drop k L, runLog_append, Option.bind_eq_some_iff] at h
  obtain ⟨l', h1, _⟩ := h
  exact ⟨l', h1⟩

theorem on_len {l l' : Dir} {c : Chg} (h : c.on l = some l') (hl : l.length ≤ 64) : l'.length ≤ 64 := by
  cases c with
  | mk s i =>
    simp only [Chg.on] at h
    split at h
    · rename_i hc
      simp at hc
      cases h
      have := alPut_length l s i
      omega
    · cases h
  | del s => cases h; exact Nat.le_trans (alDel_length l s) hl
  | ren s t =>
    simp only [Chg.on, Option.map_eq_some_iff] at h
    obtain ⟨i, hi, rfl⟩ := h
    have hm := alFind_mem hi
    have h1 : (alDel l s).length < l.length := by
      unfold alDel
      rw [List.length_filter_lt_length_iff_exists]
      exact ⟨_, hm, by simp⟩
    have := alPut_length (alDel l s) t i
    omega

theorem on_rising {l l' : Dir} {c : Chg} (h : c.on l = some l') (hl : Rising l) : Rising l' := by
  cases c with
  | mk s i =>
    simp only [Chg.on] at h
    split at h
    · cases h; exact rising_put hl _ _
    · cases h
  | del s => cases h; exact rising_del hl _
  | ren s t =>
    simp only [Chg.on, Option.map_eq_some_iff] at h
    obtain ⟨i, hi, rfl⟩ := h
    exact rising_put (rising_del hl _) _ _

end Go.Proofs.Ytbankfdgoolbdaa
