/- Changes of a directory done to a map: the three functions that a log holds, walked. -/
import Derived.Test.YtbankfdgoolbdaaDkRef
namespace Go.Proofs.Ytbankfdgoolbdaa
open Go Go.RowKit Go.Lib
set_option linter.unusedVariables false
variable {o : List Nat} {w0 w : World} {db mb : Nat} {a : ADk} {ad : Nat → Nat} {l l' : Dir}

theorem dirV_find (ad : Nat → Nat) (l : Dir) (s : Nm) : alFind (dirV ad l) s = (alFind l s).map fun i => ptr (ad i) := alMap_find _ _ _
theorem dirV_put (ad : Nat → Nat) (l : Dir) (s : Nm) (i : Nat) : dirV ad (alPut l s i) = alPut (dirV ad l) s (ptr (ad i)) := alMap_put _ _ _ _
theorem dirV_del (ad : Nat → Nat) (l : Dir) (s : Nm) : dirV ad (alDel l s) = alDel (dirV ad l) s := alMap_del _ _ _
theorem dirV_len (ad : Nat → Nat) (l : Dir) : (dirV ad l).length = l.length := alMap_length _ _

/-- A map's block is no block of cells. -/
theorem map_ne_cell {w : World} {mb b : Nat} {nv : List (Nm × Value)} {v : Value} (h : MapAt w mb nv) (hc : w.cell? ⟨b, 0, none⟩ = some v) : b ≠ mb := by
  rintro rfl
  obtain ⟨es, clock, hb, _⟩ := h
  simp only [World.cell?, hb] at hc
  cases hc

theorem nm_le {s : Nm} (h : isNm s = true) : (⟨s.toArray⟩ : ByteArray).size ≤ maxLen := by
  unfold isNm at h
  simp only [Bool.and_eq_true, decide_eq_true_eq] at h
  have h1 : (⟨s.toArray⟩ : ByteArray).size = s.length := rfl
  have : (16 : Nat) ≤ maxLen := by decide
  omega

set_option maxHeartbeats 2000000 in
theorem del_walk (hM : Has o w w (.map mb (dirV ad l))) (s : Nm) (hs : isNm s = true) (b1 : Nat) (hb : w.cell? ⟨b1, 0, none⟩ = some (nmV s)) :
    Calls Try.prog 34 #[.map (some mb), ptr b1] w fun e w' => e = .returned (.tuple #[]) ∧ Has o w w' (.map mb (dirV ad (alDel l s))) := by
  have hsz := nm_le hs
  unfold nmV at hb
  rw [dirV_del]
  have hx2 : (⟨s.toArray⟩ : ByteArray).data.toList = s := rfl
  generalize (⟨s.toArray⟩ : ByteArray) = x at *
  subst hx2
  obtain ⟨w1, hrun, h1, k1⟩ := hM.mapDrop x hsz 0
  have H1 := Lib.hid h1
  clear h1 hM hs hsz k1
  unfold ptr
  go_enter Try.func34, Try.ntmps34
  go_wp2_with fail
  go_end0
  exact ⟨rfl, H1.out⟩

set_option maxHeartbeats 2000000 in
theorem mk_walk (hM : Has o w w (.map mb (dirV ad l))) (s : Nm) (i : Nat) (hs : isNm s = true) (hl : l.length < maxLen) (b1 b2 : Nat) (hb1 : w.cell? ⟨b1, 0, none⟩ = some (ptr (ad i))) (hb2 : w.cell? ⟨b2, 0, none⟩ = some (nmV s)) :
    Calls Try.prog 35 #[.map (some mb), ptr b1, ptr b2] w fun e w' => e = .returned (.tuple #[]) ∧ Has o w w' (.map mb (dirV ad (alPut l s i))) := by
  have hsz := nm_le hs
  unfold nmV at hb2
  rw [dirV_put]
  have hx2 : (⟨s.toArray⟩ : ByteArray).data.toList = s := rfl
  generalize (⟨s.toArray⟩ : ByteArray) = x at *
  subst hx2
  obtain ⟨w1, hrun, h1, k1⟩ := hM.mapStore x hsz (by rw [dirV_len]; exact hl) (ptr (ad i))
  have H1 := Lib.hid h1
  clear h1 hM hs hsz k1 hl
  unfold ptr at *
  go_enter Try.func35, Try.ntmps35
  go_wp2_with fail
  go_end0
  exact ⟨rfl, H1.out⟩

set_option maxHeartbeats 2000000 in
theorem ren_walk (hM : Has o w w (.map mb (dirV ad l))) (s t : Nm) (i : Nat) (hs : isNm s = true) (ht : isNm t = true) (hf : alFind l s = some i) (hl : l.length < maxLen) (b1 b2 : Nat) (hb1 : w.cell? ⟨b1, 0, none⟩ = some (nmV s)) (hb2 : w.cell? ⟨b2, 0, none⟩ = some (nmV t)) :
    Calls Try.prog 52 #[.map (some mb), ptr b1, ptr b2] w fun e w' => e = .returned (.tuple #[]) ∧ Has o w w' (.map mb (dirV ad (alPut (alDel l s) t i))) := by
  have hsz := nm_le hs
  have htz := nm_le ht
  have n2 := map_ne_cell hM.mapAt hb2
  have hfd : alFind (dirV ad l) s = some (ptr (ad i)) := by rw [dirV_find, hf]; rfl
  have hl2 : (alDel (dirV ad l) s).length < maxLen := by
    have := alDel_length (dirV ad l) s
    rw [dirV_len] at this
    omega
  unfold nmV at hb1 hb2
  rw [dirV_put, dirV_del]
  have hx2 : (⟨s.toArray⟩ : ByteArray).data.toList = s := rfl
  have hy2 : (⟨t.toArray⟩ : ByteArray).data.toList = t := rfl
  generalize (⟨s.toArray⟩ : ByteArray) = x at *
  generalize (⟨t.toArray⟩ : ByteArray) = y at *
  subst hx2
  subst hy2
  have hlk := hM.mapAt.look x hsz
  rw [hfd] at hlk
  simp only [Option.getD_some] at hlk
  obtain ⟨w1, hrun, h1, k1⟩ := hM.mapDrop x hsz 0
  obtain ⟨w2, hrun2, h2, k2⟩ := h1.mapStore y htz hl2 (ptr (ad i))
  have hb2' : w1.cell? ⟨b2, 0, none⟩ = some (.string y) := k1.cell hb2 (by simpa using n2)
  have H2 := Lib.hid h2
  clear h1 h2 hM hs hsz k1 hl hl2 k2 ht htz hf hfd n2
  unfold ptr at *
  go_enter Try.func52, Try.ntmps52
  go_wp2_with fail
  go_end0
  exact ⟨rfl, H2.out⟩

/-- What a change's function is called with, and which it is. -/
def cloF : Chg → Nat
  | .mk _ _ => 35
  | .del _ => 34
  | .ren _ _ => 52
def cloCap (b1 b2 : Nat) : Chg → Array Value
  | .mk _ _ => #[ptr b1, ptr b2]
  | .del _ => #[ptr b1]
  | .ren _ _ => #[ptr b1, ptr b2]
theorem cloV_eq (b1 b2 : Nat) (c : Chg) : cloV b1 b2 c = .func (.func (cloF c)) #[] (cloCap b1 b2 c) := by cases c <;> rfl

/-- The variables that a change's function holds. -/
def BoxAt (w : World) (ad : Nat → Nat) (b1 b2 : Nat) : Chg → Prop
  | .mk s i => w.cell? ⟨b1, 0, none⟩ = some (ptr (ad i)) ∧ w.cell? ⟨b2, 0, none⟩ = some (nmV s)
  | .del s => w.cell? ⟨b1, 0, none⟩ = some (nmV s)
  | .ren s t => w.cell? ⟨b1, 0, none⟩ = some (nmV s) ∧ w.cell? ⟨b2, 0, none⟩ = some (nmV t)

theorem boxAt_of {b1 b2 : Nat} {c : Chg} (h : Has o w0 w (boxP ad b1 b2 c)) : BoxAt w ad b1 b2 c := by
  cases c with
  | mk s i =>
    obtain ⟨o1, h1, _⟩ := h.left
    obtain ⟨o2, h2, _⟩ := h.right
    exact ⟨(h1.blkAt (by omega)).1, (h2.blkAt (by omega)).1⟩
  | del s => exact (Has.blkAt h (by omega)).1
  | ren s t =>
    obtain ⟨o1, h1, _⟩ := h.left
    obtain ⟨o2, h2, _⟩ := h.right
    exact ⟨(h1.blkAt (by omega)).1, (h2.blkAt (by omega)).1⟩

/-- A change's function, whichever. -/
theorem clo_walk (c : Chg) (b1 b2 : Nat) (hM : Has o w w (.map mb (dirV ad l))) (hc : c.on l = some l') (hnm : c.named) (hl : l.length < maxLen) (hb : BoxAt w ad b1 b2 c) :
    Calls Try.prog (cloF c) (#[.map (some mb)] ++ cloCap b1 b2 c) w fun e w' => e = .returned (.tuple #[]) ∧ Has o w w' (.map mb (dirV ad l')) := by
  cases c with
  | mk s i =>
    simp only [Chg.on] at hc
    split at hc
    · cases hc
      exact mk_walk hM s i hnm hl b1 b2 hb.1 hb.2
    · cases hc
  | del s =>
    cases hc
    exact del_walk hM s hnm b1 hb
  | ren s t =>
    simp only [Chg.on, Option.map_eq_some_iff] at hc
    obtain ⟨i, hi, rfl⟩ := hc
    exact ren_walk hM s t i hnm.1 hnm.2 hi hl b1 b2 hb.1 hb.2

end Go.Proofs.Ytbankfdgoolbdaa
