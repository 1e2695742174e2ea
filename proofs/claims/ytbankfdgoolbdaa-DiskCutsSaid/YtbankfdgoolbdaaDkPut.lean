/- A change of the directory, remembered: change walked. -/
import Derived.Test.YtbankfdgoolbdaaDkChg
namespace Go.Proofs.Ytbankfdgoolbdaa
open Go Go.RowKit Go.Lib
set_option linter.unusedVariables false
variable {o : List Nat} {w0 w : World} {db mb : Nat} {a : ADk} {L : DLay} {l l' : Dir}

theorem imp_assoc (A B C : Part) : ((A.sep B).sep C).Imp (A.sep (B.sep C)) := by
  rintro w fp ⟨f, g, ⟨a, b, hA, hB, hd, rfl⟩, hC, hd', rfl⟩
  refine ⟨a ++ (b ++ g), ⟨a, b ++ g, hA, ⟨b, g, hB, hC, fun x hx => hd' x (by simp [hx]), rfl⟩, ?_, rfl⟩, fun x hx => by simpa using hx⟩
  intro x hx hx'
  rcases List.mem_append.1 hx' with h | h
  · exact hd x hx h
  · exact hd' x (by simp [hx]) h

theorem imp_in {A X B Y : Part} (h : (X.sep B).Imp Y) : ((A.sep X).sep B).Imp (A.sep Y) :=
  (imp_assoc A X B).trans (Part.Imp.sep (Part.Imp.refl A) h)

theorem imp_congr {n : Nat} {f g : Nat → Part} (e : ∀ i, i < n → f i = g i) : (Part.all n f).Imp (Part.all n g) := Part.Imp.all fun i hi => by rw [e i hi]; exact Part.Imp.refl _

theorem imp_snoc (n : Nat) (f : Nat → Part) (B : Part) : ((Part.all n f).sep B).Imp (.all (n + 1) fun j => if j = n then B else f j) := by
  rintro w fp ⟨a, c, ⟨F, hF, hd, hm⟩, hB, hd2, rfl⟩
  have hF' : ∀ i, i < n → ∀ x ∈ F i, x ∈ a := fun i hi x hx => (hm x).2 ⟨i, hi, hx⟩
  refine ⟨a ++ c, ⟨fun j => if j = n then c else F j, fun i hi => ?_, fun i j hi hj hne x hx hx' => ?_, fun x => ?_⟩, fun x hx => hx⟩
  · by_cases e : i = n
    · simp only [if_pos e]; exact hB
    · simp only [if_neg e]; exact hF i (by omega)
  · by_cases e : i = n
    · have e2 : j ≠ n := by omega
      simp only [if_pos e] at hx
      simp only [if_neg e2] at hx'
      exact hd2 x (hF' j (by omega) x hx') hx
    · simp only [if_neg e] at hx
      by_cases e2 : j = n
      · simp only [if_pos e2] at hx'
        exact hd2 x (hF' i (by omega) x hx) hx'
      · simp only [if_neg e2] at hx'
        exact hd i j (by omega) (by omega) hne x hx hx'
  · constructor
    · intro hx
      rcases List.mem_append.1 hx with h | h
      · obtain ⟨i, hi, hx⟩ := (hm x).1 h
        exact ⟨i, by omega, by simp only [if_neg (show i ≠ n by omega)]; exact hx⟩
      · exact ⟨n, by omega, by simp only [if_pos]; exact h⟩
    · rintro ⟨i, hi, hx⟩
      by_cases e : i = n
      · simp only [if_pos e] at hx; simp [hx]
      · simp only [if_neg e] at hx
        simp [hF' i (by omega) x hx]

/-- The box of the last change goes in. -/
theorem dk_boxed {f : Nat → Value} {nv ov : List (Nm × Value)} {ob : Nat} {lv : Value} {ls : List Value} {n k : Nat} {fp bp g : Nat → Part} {B : Part}
    (h : Has o w0 w ((DkC db f mb nv ob ov lv ls n fp k bp).sep B)) (hg : ∀ j, j < k + 1 → g j = if j = k then B else bp j) : Has o w0 w (DkC db f mb nv ob ov lv ls n fp (k + 1) g) :=
  h.weaken (imp_in (imp_in (imp_in (imp_in (imp_in ((imp_snoc k bp B).trans (imp_congr fun j hj => (hg j hj).symm)))))))

/-- The same for a file. -/
theorem dk_filed {f : Nat → Value} {nv ov : List (Nm × Value)} {ob : Nat} {lv : Value} {ls : List Value} {n k : Nat} {fp bp g : Nat → Part} {B : Part}
    (h : Has o w0 w (DkC db f mb nv ob ov lv ls n fp k bp)) {w' : World} (hB : Has [] w w' B) (hg : ∀ j, j < n + 1 → g j = if j = n then B else fp j) : Has o w0 w' (DkC db f mb nv ob ov lv ls (n + 1) g k bp) := by
  have h1 := h.beside hB
  refine h1.weaken (imp_in (imp_in (imp_in (imp_in ?_))))
  have e1 : ((Part.all n fp).sep (Part.all k bp)).sep B |>.Imp (((Part.all n fp).sep B).sep (Part.all k bp)) := by
    rintro w fp ⟨f, g, ⟨a, b, hA, hX, hd, rfl⟩, hC, hd', rfl⟩
    refine ⟨(a ++ g) ++ b, ⟨a ++ g, b, ⟨a, g, hA, hC, fun x hx => hd' x (by simp [hx]), rfl⟩, hX, ?_, rfl⟩, fun x hx => by simp at hx ⊢; rcases hx with h | h | h <;> simp [h]⟩
    intro x hx hx'
    rcases List.mem_append.1 hx with h | h
    · exact hd x h hx'
    · exact hd' x (by simp [hx']) h
  exact e1.trans (Part.Imp.sep ((imp_snoc n fp B).trans (imp_congr fun j hj => (hg j hj).symm)) (Part.Imp.refl _))

theorem clo_enters (c : Chg) : ∀ args w, (callFunc (cloF c) args).run Try.prog w = .ok (.enter (cloF c) args) w := by
  cases c with
  | mk s i => exact enters_of Try.func35 (by kernel_rfl) rfl
  | del s => exact enters_of Try.func34 (by kernel_rfl) rfl
  | ren s t => exact enters_of Try.func52 (by kernel_rfl) rfl

theorem logV_snoc (L : DLay) (l : List Chg) (c : Chg) (lv : Value) (b1 b2 : Nat) :
    logV { L with lv := lv, b1 := fun j => if j = l.length then b1 else L.b1 j, b2 := fun j => if j = l.length then b2 else L.b2 j } (l ++ [c]) = logV L l ++ [cloV b1 b2 c] := by
  unfold logV
  rw [List.mapIdx_append]
  congr 1
  · refine List.ext_getElem? fun j => ?_
    simp only [List.getElem?_mapIdx]
    cases h : l[j]? with
    | none => rfl
    | some x =>
      have : j < l.length := (List.getElem?_eq_some_iff.1 h).1
      simp [show j ≠ l.length by omega]
  · simp

/-- The disk behind a change, its box beside. -/
theorem dk_changed {lv : Value} {c : Chg} {b1 b2 : Nat} (hl : c.on a.now = some l')
    (h : Has o w0 w ((DkC db (upd (dkCells L a) 2 lv) L.mb (dirV L.addr l') L.ob (dirV L.addr a.old) lv (logV L a.log ++ [cloV b1 b2 c]) a.fs.length (fun i => fileP (L.addr i) (L.bv i) (a.file i)) a.log.length (fun j => boxP L.addr (L.b1 j) (L.b2 j) (a.log.getD j (.del [])))).sep (boxP L.addr b1 b2 c))) :
    Has o w0 w (DkL db (a.change c) { L with lv := lv, b1 := fun j => if j = a.log.length then b1 else L.b1 j, b2 := fun j => if j = a.log.length then b2 else L.b2 j }) := by
  have h1 := dk_boxed (g := fun j => boxP L.addr (if j = a.log.length then b1 else L.b1 j) (if j = a.log.length then b2 else L.b2 j) ((a.log ++ [c]).getD j (.del []))) h (by
    intro j hj
    by_cases e : j = a.log.length
    · subst e; simp
    · simp only [if_neg e]
      rw [List.getD_eq_getElem?_getD, List.getD_eq_getElem?_getD, List.getElem?_append_left (by omega)])
  unfold DkL
  have e1 : upd (dkCells L a) 2 lv = dkCells { L with lv := lv, b1 := fun j => if j = a.log.length then b1 else L.b1 j, b2 := fun j => if j = a.log.length then b2 else L.b2 j } (a.change c) := by
    funext i
    unfold upd
    match i with
    | 0 | 1 | 3 | 4 | 5 => rfl
    | 2 => rfl
    | i + 6 => rfl
  rw [e1, ← logV_snoc L a.log c lv b1 b2] at h1
  have e2 : (a.change c).now = l' := by show (c.on a.now).getD a.now = l'; rw [hl]; rfl
  have e3 : (a.change c).log.length = a.log.length + 1 := by show (a.log ++ [c]).length = _; simp
  rw [e2, e3]
  exact h1

/-- The log takes one function more. -/
theorem dk_logged {f : Nat → Value} {nv ov : List (Nm × Value)} {ob : Nat} {lv lv' v : Value} {ls : List Value} {n k : Nat} {fp bp : Nat → Part} {w5 : World} (ob' : Obj)
    (h : Has o w0 w (DkC db f mb nv ob ov lv ls n fp k bp)) (happ : Appended (w.alloc ob') w5 68 1 lv lv' (ls.length + 1) (ls ++ [v])) : Has o w0 w5 (DkC db f mb nv ob ov lv' (ls ++ [v]) n fp k bp) := by
  obtain ⟨o', h1, back⟩ := h.dkLog
  refine back _ _ _ ?_
  rw [List.length_append]
  exact Has.appendRow ob' h1 happ

theorem info_fn : (Try.prog.info? 68).map (fun i => (i.zero, i.size, i.bytes)) = some (some .nilFunc, 1, 8) := by kernel_rfl

set_option maxHeartbeats 4000000 in
set_option maxRecDepth 100000 in
/-- change. -/
theorem change_walk (h : Has o w w (DkL db a L)) (hlog : a.log.length ≤ 65536) (c : Chg) (b1 b2 : Nat) (hc : c.on a.now = some l') (hnm : c.named) (hl : a.now.length < maxLen) (hb : BoxAt w L.addr b1 b2 c) :
    Calls Try.prog 33 #[ptr db, cloV b1 b2 c] w fun e w' => e = .returned (.tuple #[]) ∧ ∃ lv,
      Has o w w' (DkC db (upd (dkCells L a) 2 lv) L.mb (dirV L.addr l') L.ob (dirV L.addr a.old) lv (logV L a.log ++ [cloV b1 b2 c]) a.fs.length (fun i => fileP (L.addr i) (L.bv i) (a.file i)) a.log.length (fun j => boxP L.addr (L.b1 j) (L.b2 j) (a.log.getD j (.del [])))) := by
  have c0 : w.cell? ⟨db, 0, none⟩ = some (.map (some L.mb)) := (dkl_cell h 0 (by omega)).1
  obtain ⟨o', hM, _, back⟩ := h.dkNow
  have HC := Lib.hid ((clo_walk c b1 b2 hM hc hnm hl hb).mono (R' := fun e w' => e = .returned (.tuple #[]) ∧ Has o w w' (DkC db (dkCells L a) L.mb (dirV L.addr l') L.ob (dirV L.addr a.old) L.lv (logV L a.log) a.fs.length (fun i => fileP (L.addr i) (L.bv i) (a.file i)) a.log.length (fun j => boxP L.addr (L.b1 j) (L.b2 j) (a.log.getD j (.del []))))) (by
    rintro e w' ⟨rfl, h'⟩
    exact ⟨rfl, back _ _ _ h'⟩))
  have hce := clo_enters c
  obtain ⟨i0, hi, he⟩ := Option.map_eq_some_iff.1 info_fn
  obtain ⟨hz0, hz1, hz2⟩ : i0.zero = some .nilFunc ∧ i0.size = 1 ∧ i0.bytes = 8 := by simpa using he
  clear he
  have HV := Lib.hid (cloV_eq b1 b2 c)
  clear hM back hb hc hnm h
  rw [HV.out]
  obtain ⟨cf, hcf⟩ : ∃ cf, cloF c = cf := ⟨_, rfl⟩
  obtain ⟨cc, hcc⟩ : ∃ cc, cloCap b1 b2 c = cc := ⟨_, rfl⟩
  rw [hcf] at hce HC ⊢
  rw [hcc] at HC ⊢
  clear hcf hcc
  unfold ptr
  go_enter Try.func33, Try.ntmps33
  go_wp2_with fail
  refine HC.out.mono ?_
  rintro e w1 ⟨rfl, h1⟩
  clear HC
  have c2 : w1.cell? ⟨db, 2, none⟩ = some L.lv := (h1.dkCell (i := 2) (by omega)).1
  obtain ⟨o2, hR, _⟩ := h1.dkLog
  obtain ⟨_, ⟨hrow, _⟩, _⟩ := hR
  have hlen : (logV L a.log).length = a.log.length := by simp [logV]
  rw [hlen] at hrow
  have HLEN := Lib.hid hlen
  clear hlen
  have HO := Lib.hid (fun ob => hrow.alloc ob)
  have H1 := Lib.hid h1
  clear h1 hrow
  go_wp2_with (at_builtin; refine wpList_append_new rfl (.tmp 14) (.tmp 16) 61 rfl 68 i0 .nilFunc 1 8 Try.underlying61 hi hz0 hz1 hz2 rfl (by decide) _ _ _ rfl (HO.out _) ⟨_, 0, none⟩ 1 1 [.func (.func cf) #[] cc] rfl rfl ?c1 ?c2 ?c3 ?c4 ?_)
  case c1 => exact cell_one _ _ _ _ (by simp)
  case c2 => simp [Value.oneCell']
  case c3 => simp only [maxLen]; omega
  case c4 => omega
  intro v' w5 happ
  obtain ⟨g', cap', rfl, _⟩ := row_out happ.row (by omega)
  have H5 := dk_logged (v := .func (.func cf) #[] cc) _ H1.out (by rw [HLEN.out]; exact happ)
  obtain ⟨d2, f2, hst⟩ := H5.dkCell (i := 2) (by omega)
  have H6 := Lib.hid (hst (.slice (some ⟨g', 0, none⟩) (a.log.length + 1) cap'))
  clear H5 hst happ
  go_wp2_with fail
  go_end0
  exact ⟨rfl, _, H6.out⟩

end Go.Proofs.Ytbankfdgoolbdaa
