/- For Crash: the new disk while its files are made, one by one, in any order. Nothing is claimed of a program here. -/
import Derived.Test.YtbankfdgoolbdaaDkCrS
namespace Go.Proofs.Ytbankfdgoolbdaa
open Go Go.RowKit Go.Maps
set_option linter.unusedVariables false
variable {o : List Nat} {w0 w w' w1 : World} {db : Nat} {a : ADk} {L : DLay} {l : Dir} {x : Nat → AFile} {left : Nm → Bool}

def nmAt (l : Dir) (j : Nat) : Nm := (l.getD j ([], 0)).1
def numbered (l : Dir) : Dir := (l.map (·.1)).zipIdx

theorem numbered_map (l : Dir) : (numbered l).map (·.1) = l.map (·.1) := by simp [numbered]

theorem numbered_rising (h : Rising l) : Rising (numbered l) := by
  have h1 : (l.map (·.1)).Pairwise fun p q => bytesBefore p q = true := List.pairwise_map.2 h
  rw [← numbered_map, List.pairwise_map] at h1
  exact h1

theorem numbered_get {j : Nat} (hj : j < l.length) : (numbered l)[j]? = some (nmAt l j, j) := by
  unfold numbered nmAt
  rw [List.getElem?_zipIdx, List.getElem?_map, List.getD_eq_getElem?_getD, List.getElem?_eq_getElem hj]
  simp

theorem numbered_mem {p : Nm × Nat} (h : p ∈ numbered l) : p.2 < l.length ∧ p.1 = nmAt l p.2 := by
  obtain ⟨j, hj⟩ := List.mem_iff_getElem?.1 h
  have hlt : j < l.length := by
    have := (List.getElem?_eq_some_iff.1 hj).1
    simpa [numbered] using this
  rw [numbered_get hlt] at hj
  cases hj
  exact ⟨hlt, rfl⟩

theorem nmAt_inj (h : Rising l) {i j : Nat} (hi : i < l.length) (hj : j < l.length) (e : nmAt l i = nmAt l j) : i = j := by
  have h1 := List.mem_of_getElem? (numbered_get hi)
  have h2 := List.mem_of_getElem? (numbered_get hj)
  have := (numbered_rising h).inj h1 h2 e
  simpa using congrArg Prod.snd this

/-- The new disk under way. -/
def CrO (db : Nat) (l : Dir) (x : Nat → AFile) (left : Nm → Bool) (L : DLay) : Part :=
  DkC db (dkCells L ADk.new) L.mb (dirV L.addr ((numbered l).filter fun q => !left q.1)) L.ob [] L.lv [] l.length
    (fun j => if left (nmAt l j) = true then Part.emp else fileP (L.addr j) (L.bv j) (x j)) 0 (fun _ => Part.emp)

theorem all_emp (w : World) (n : Nat) (f : Nat → Part) (hf : ∀ i, i < n → f i = Part.emp) : Has [] w w (.all n f) :=
  ⟨[], ⟨fun _ => [], fun i hi => by rw [hf i hi]; exact rfl, fun i j _ _ _ x hx => by simp at hx, fun x => by simp⟩, by simp, Kept.refl _ _⟩

theorem cro_begin (h : Has o w0 w (Dk db ADk.new)) (hl : ∀ j, j < l.length → left (nmAt l j) = true) : ∃ L, Has o w0 w (CrO db l x left L) := by
  obtain ⟨_, L, h1⟩ := dk_open h
  refine ⟨L, ?_⟩
  obtain ⟨o2, h2, b2⟩ := h1.dkFiles
  have h3 := b2 w l.length (fun j => if left (nmAt l j) = true then Part.emp else fileP (L.addr j) (L.bv j) (x j)) (all_emp w _ _ fun i hi => if_pos (hl i hi)).any
  obtain ⟨o4, h4, b4⟩ := h3.dkBoxes
  have h5 := b4 w 0 (fun _ => Part.emp) (Has.nothing _).any
  have e : (numbered l).filter (fun q => !left q.1) = [] := by
    rw [List.filter_eq_nil_iff]
    intro p hp
    obtain ⟨h6, h7⟩ := numbered_mem hp
    rw [h7, hl _ h6]
    simp
  unfold CrO
  rw [e]
  exact h5

theorem cro_cell (h : Has o w0 w (CrO db l x left L)) (i : Nat) (hi : i < 6) : w.cell? ⟨db, i, none⟩ = some (dkCells L ADk.new i) ∧ w.frozen? ⟨db, i, none⟩ = false := ⟨(h.dkCell hi).1, (h.dkCell hi).2.1⟩

/-- One file more. -/
theorem cro_put (h : Has o w0 w (CrO db l x left L)) (hr : Rising l) (hlen : l.length ≤ 64) {j nb : Nat} (hj : j < l.length) {v : Value} (hB : Has [] w w1 (fileP nb v (x j))) (s : ByteArray) (hs : s.data.toList = nmAt l j) (hsz : s.size ≤ maxLen) :
    w1.cell? ⟨db, 0, none⟩ = some (.map (some L.mb)) ∧ ∃ w2, (Instr.mapUpdate 60 (.map (some L.mb)) (.string s) (ptr nb)).run Try.prog w1 = .ok () w2 ∧
      ∃ L', Has o w0 w2 (CrO db l x (fun t => left t && !(t == s.data.toList)) L') := by
  have hmx : (64 : Nat) < maxLen := by decide
  obtain ⟨o2, h2, b2⟩ := h.dkFiles
  have h3 := b2 w1 _ _ (Has.allPut h2 hj hB)
  have c0 := (h3.dkCell (i := 0) (by omega)).1
  obtain ⟨o4, h4, _, b4⟩ := h3.dkNow
  obtain ⟨w2, hrun, h5, k5⟩ := h4.mapStore s hsz (by
    rw [dirV_len]
    have h6 := List.length_filter_le (fun q : Nm × Nat => !left q.1) (numbered l)
    have h7 : (numbered l).length = l.length := by simp [numbered]
    exact Nat.lt_of_le_of_lt (Nat.le_trans h6 (h7 ▸ hlen)) hmx) (ptr nb)
  refine ⟨c0, w2, hrun, { L with addr := fun i => if i = j then nb else L.addr i, bv := fun i => if i = j then v else L.bv i }, ?_⟩
  have h6 := b4 _ _ _ h5
  have hput := put_done (numbered_rising hr) (List.mem_of_getElem? (numbered_get hj)) (fun t => !left t) (fun t => !(left t && !(t == nmAt l j))) (fun t => by cases left t <;> simp)
  have e1 : dirV (fun i => if i = j then nb else L.addr i) ((numbered l).filter fun q => !(left q.1 && !(q.1 == s.data.toList))) = alPut (dirV L.addr ((numbered l).filter fun q => !left q.1)) s.data.toList (ptr nb) := by
    rw [hs, ← hput, dirV_put]
    simp only [if_true]
    unfold alPut
    refine congrArg (alIns (nmAt l j, ptr nb)) ?_
    rw [← dirV_del, ← dirV_del]
    refine dirV_congr fun p hp => ?_
    have hp1 := (List.mem_filter.1 hp)
    obtain ⟨h7, h8⟩ := numbered_mem (List.mem_filter.1 hp1.1).1
    have hne : p.1 ≠ nmAt l j := by simpa using hp1.2
    rw [if_neg (show p.2 ≠ j by rintro rfl; exact hne h8)]
  obtain ⟨o7, h7, b7⟩ := h6.dkFiles
  have h8 := b7 w2 l.length (fun i => if (left (nmAt l i) && !(nmAt l i == s.data.toList)) = true then Part.emp else fileP (if i = j then nb else L.addr i) (if i = j then v else L.bv i) (x i)) (h7.congr fun i hi => by
    unfold updP
    by_cases e : i = j
    · subst e
      simp [hs]
    · have hne : nmAt l i ≠ s.data.toList := by rw [hs]; exact fun e' => e (nmAt_inj hr hi hj e')
      simp [e, hne])
  unfold CrO
  rw [e1]
  have e2 : dkCells { L with addr := fun i => if i = j then nb else L.addr i, bv := fun i => if i = j then v else L.bv i } ADk.new = dkCells L ADk.new := by
    funext i
    match i with
    | 0 | 1 | 2 | 3 | 4 | 5 => rfl
    | i + 6 => rfl
  rw [e2]
  exact h8

theorem cro_now (h : Has o w0 w (CrO db l x left L)) : MapAt w L.mb (dirV L.addr ((numbered l).filter fun q => !left q.1)) := by
  obtain ⟨o', h', _⟩ := h.dkNow
  exact h'.mapAt

/-- The end: all files are made, the names are synced. -/
theorem cro_end (h : Has o w0 w (CrO db l x left L)) (hd : ∀ j, j < l.length → left (nmAt l j) = false) {ob : Nat} (hB : Has [] w w1 (.map ob (dirV L.addr ((numbered l).filter fun q => !left q.1)))) (fs : List AFile) (hfs : fs.length = l.length) (hx : ∀ j, j < l.length → fs.getD j ⟨[], 0⟩ = x j) :
    Has o w0 (w1.setCell ⟨db, 1, none⟩ (.map (some ob))) (DkL db ⟨fs, numbered l, numbered l, [], 0, -1, false⟩ { L with ob := ob }) := by
  have e : (numbered l).filter (fun q => !left q.1) = numbered l := by
    rw [List.filter_eq_self]
    intro p hp
    obtain ⟨h6, h7⟩ := numbered_mem hp
    rw [h7, hd _ h6]
    rfl
  unfold CrO at h
  rw [e] at h hB
  obtain ⟨o1, h1, b1⟩ := h.dkOld
  have h2 := b1 _ _ _ hB.any
  have h3 := (h2.dkCell (i := 1) (by omega)).2.2 (.map (some ob))
  have e1 : upd (dkCells L ADk.new) 1 (.map (some ob)) = dkCells { L with ob := ob } ⟨fs, numbered l, numbered l, [], 0, -1, false⟩ := by
    funext i
    unfold upd
    match i with
    | 0 | 2 | 3 | 4 | 5 => rfl
    | 1 => rfl
    | i + 6 => rfl
  rw [e1] at h3
  obtain ⟨o4, h4, b4⟩ := h3.dkFiles
  have h5 := b4 (w1.setCell ⟨db, 1, none⟩ (.map (some ob))) fs.length (fun j => fileP (L.addr j) (L.bv j) (fs.getD j ⟨[], 0⟩)) (by
    rw [hfs]
    exact h4.congr fun j hj => by rw [if_neg (by rw [hd j hj]; simp), hx j hj])
  obtain ⟨o6, h6, b6⟩ := h5.dkBoxes
  exact b6 (w1.setCell ⟨db, 1, none⟩ (.map (some ob))) 0 _ (Has.nothing _).any

end Go.Proofs.Ytbankfdgoolbdaa
