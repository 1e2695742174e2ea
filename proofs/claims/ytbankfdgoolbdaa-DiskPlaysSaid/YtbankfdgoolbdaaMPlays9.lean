/- The reference's Names walked; what Append does to its memory.
The reference's Append walked.
For the reference's Crash: bytes turned from one place on, the new disk while its files are made in order. Nothing is claimed of a program here.
The reference's Crash walked. -/
import Derived.Test.YtbankfdgoolbdaaMPlays8
import Derived.Deep.CutBlock
namespace Go.Proofs.Ytbankfdgoolbdaa
open Go Go.RowKit Go.Lib
set_option linter.unusedVariables false
variable {o : List Nat} {w0 w w' w1 : World} {rb : Nat} {a : ADk} {L : RLay} {l' : Dir}

theorem info_str : (Try.prog.info? 9).map (fun i => (i.zero, i.size, i.bytes)) = some (some (.string ⟨#[]⟩), 1, 16) := by kernel_rfl

theorem namesIn_of {w : World} {v : Value} {l : List Nm} (hr : w.ownsRow 0 9 1 v l.length (l.map encStr)) : NamesIn w v l := by
  obtain ⟨p, c, rfl, hn, hc⟩ := rowSliceLe hr
  refine ⟨p, c, rfl, hn, fun i u hu => ?_⟩
  have hi : i < l.length := (List.getElem?_eq_some_iff.1 hu).1
  exact hc i _ hi (by rw [List.getElem?_map, hu]; rfl)

theorem strs_app {w5 : World} {ob : Obj} {v v' : Value} {l : List Nm} {u : Nm} (h : Has o w0 w (.row 9 1 v l.length (l.map encStr))) (happ : Appended (w.alloc ob) w5 9 1 v v' (l.length + 1) (l.map encStr ++ [encStr u])) :
    Has o w0 w5 (.row 9 1 v' (l ++ [u]).length ((l ++ [u]).map encStr)) := by
  have := Has.rowAppend ob h happ
  rw [List.length_append, List.map_append]
  exact this

set_option maxHeartbeats 4000000 in
set_option maxRecDepth 100000 in
theorem rnames_walk (h : Has o w0 w (Rf rb a)) {n : Nat} (hn : a.now.length = n) : Calls Try.prog 50 #[ptr rb] w fun e w' => ∃ p c, e = .returned (.slice p n c) ∧ NamesIn w' (.slice p n c) a.names ∧ Kept [] w w' := by
  obtain ⟨ha, L, hL⟩ := rf_open h
  have hl := ha.now.len
  rw [hn] at hl
  have HL := Lib.hid hL
  have HN := Lib.hid hn
  obtain ⟨np, nc, hnv, hnc, _⟩ := (rfl_now hL).len
  rw [hn] at hnv hnc
  have HNV := Lib.hid hnv
  obtain ⟨i0, hi, he⟩ := Option.map_eq_some_iff.1 info_str
  obtain ⟨hz0, hz1, hz2⟩ : i0.zero = some (.string ⟨#[]⟩) ∧ i0.size = 1 ∧ i0.bytes = 16 := by simpa using he
  clear h ha hL hn hnv he
  unfold ptr
  go_enter Try.func50, Try.ntmps50
  go_wp2_with fail
  go_loopg [3, 4] n (fun kk ov iv wr => ∃ i : Nat, i ≤ n ∧ kk = n - i ∧ iv = .int .i64 i ∧ Has [] w wr (.row 9 1 ov (a.names.take i).length ((a.names.take i).map encStr)))
  case atStart => exact ⟨0, Nat.zero_le _, rfl, rfl, ⟨[], ⟨World.ownsRow_nil _ _ _ _, by simp [rowsOf, Value.ownBlock]⟩, by simp, Kept.refl _ _⟩⟩
  case round =>
    obtain ⟨i, hi', hkk, rfl, hH⟩ := hrel
    have HKK := Lib.hid hkk
    have HH := Lib.hid hH
    have hLr := HL.out.quiet hH.keeps
    have c3 : wr.cell? ⟨rb, 3, none⟩ = some L.nv := (rfl_cell hLr 3 (by omega)).1
    rw [HNV.out] at c3
    clear hkk
    by_cases hlt : i < n
    · have d1 : ((i : Int) < (n : Int)) ↔ True := by simp; omega
      obtain ⟨q, hq⟩ : ∃ q, a.now[i]? = some q := ⟨_, List.getElem?_eq_getElem (by have := HN.out; omega)⟩
      obtain ⟨g, c', e, _, c1, c2⟩ := (rfl_now hLr).cells hq
      rw [HNV.out] at e
      obtain ⟨rfl, rfl⟩ : np = some ⟨g, 0, none⟩ ∧ nc = c' := by injection e with e1 _ e2; exact ⟨e1, e2⟩
      have hd : decide (i < n) = true := decide_eq_true hlt
      have hdc : i < nc := by omega
      have hq2 : a.names[i]? = some q.1 := by unfold ADk.names; rw [List.getElem?_map, hq]; rfl
      have HQ := Lib.hid hq2
      obtain ⟨X, hX⟩ : ∃ X, (⟨q.1.toArray⟩ : ByteArray) = X := ⟨_, rfl⟩
      rw [hX] at c1
      have HX := Lib.hid (show encStr q.1 = .string X from by unfold encStr; rw [hX])
      obtain ⟨ox, om, oc, rfl⟩ : ∃ ox om oc, u3 = .slice ox om oc := by
        obtain ⟨_, ⟨hr, _⟩, _⟩ := id hH
        obtain ⟨p, c, e⟩ := rowSlice hr
        exact ⟨p, _, c, e⟩
      have hlen2 : (a.names.take i).length = i := by rw [List.length_take]; unfold ADk.names; rw [List.length_map]; have := HN.out; omega
      have HL2 := Lib.hid hlen2
      obtain ⟨_, ⟨hr, _⟩, _⟩ := hH.alloc (.cells #[.string X] 9)
      have HR := Lib.hid hr
      clear e hX hq hq2 hLr hH hr hlen2
      go_wp2_with (at_builtin; refine wpList_append_new rfl (.tmp 14) (.tmp 23) 22 rfl 9 i0 (.string ⟨#[]⟩) 1 16 Try.underlying22 hi hz0 hz1 hz2 rfl (by decide) _ _ _ rfl HR.out ⟨_, 0, none⟩ 1 1 [.string X] rfl rfl (cell_made _ _ _ _ rfl) (by intro u hu; simp at hu; subst hu; rfl) (by have := HL2.out; simp only [maxLen]; omega) (by have := HL2.out; omega) ?_; intro v9 w9 happ; have HAP := Lib.hid happ; clear happ)
      go_roundg (n - (i + 1))
      case measure => rw [HKK.out]; omega
      case rel => exact ⟨i + 1, by omega, rfl, by go_num, by
        have := HAP.out
        rw [← HX.out] at this
        rw [show a.names.take (i + 1) = a.names.take i ++ [q.1] by
          obtain ⟨hlt', e⟩ := List.getElem?_eq_some_iff.1 HQ.out
          rw [List.take_succ_eq_append_getElem hlt', e]]
        exact strs_app HH.out this⟩
    · have d1 : ((i : Int) < (n : Int)) ↔ False := by simp; omega
      obtain rfl : i = n := by omega
      have hfull : a.names.take i = a.names := List.take_of_length_le (by unfold ADk.names; rw [List.length_map]; have := HN.out; omega)
      have hlen : a.names.length = i := by unfold ADk.names; rw [List.length_map]; exact HN.out
      rw [hfull] at hH
      obtain ⟨_, ⟨hr, _⟩, _⟩ := id hH
      have hnm := namesIn_of hr
      obtain ⟨p9, c9, e9, _⟩ := id hnm
      rw [hlen] at e9
      subst e9
      have HNM := Lib.hid hnm
      have HK := Lib.hid hH.keeps
      clear hfull hlen hH hr hnm hLr HH
      go_wp2_with fail
      go_ret
      exact ⟨_, _, rfl, HNM.out, HK.out⟩

/-! ### Append -/
theorem info_ptr : (Try.prog.info? 91).map (fun i => (i.zero, i.size, i.bytes)) = some (some (.pointer none), 1, 8) := by kernel_rfl

theorem ptrsV_snoc (ad : Nat → Nat) (n nb : Nat) : ptrsV (fun j => if j = n then nb else ad j) (n + 1) = ptrsV ad n ++ [ptr nb] := by
  unfold ptrsV
  rw [List.range_succ, List.map_append]
  congr 1
  · exact List.map_congr_left fun i hi => by
      have : i < n := List.mem_range.1 hi
      show ptr (if i = n then nb else ad i) = _
      rw [if_neg (by omega)]
  · simp

/-- One file more. -/
theorem rfl_grow (h : Has o w0 w (RfL rb a L)) {nb : Nat} {v : Value} {x : AFile} (hB : Has [] w w' (fileRP nb v x)) {v' : Value} {w5 : World} {ob : Obj}
    (happ : Appended (w'.alloc ob) w5 91 1 L.fv v' (a.fs.length + 1) (ptrsV L.addr a.fs.length ++ [ptr nb])) :
    (w5.cell? ⟨rb, 0, none⟩ = some L.fv ∧ w5.frozen? ⟨rb, 0, none⟩ = false) ∧ Has o w0 (w5.setCell ⟨rb, 0, none⟩ v') (RfL rb { a with fs := a.fs ++ [x] } { L with fv := v', addr := fun j => if j = a.fs.length then nb else L.addr j, bv := fun j => if j = a.fs.length then v else L.bv j }) := by
  have h0 := h.beside hB
  -- the row of pointers
  obtain ⟨o1, h1, _, _, b1⟩ := h0.left
  obtain ⟨o2, h2, b2⟩ := h1.rfPtrs
  have e0 : (ptrsV L.addr a.fs.length).length = a.fs.length := by simp [ptrsV]
  rw [e0] at h2
  have h3 := Has.rowAppend ob h2 happ
  have h4 := b1 w5 _ (b2 w5 v' (ptrsV L.addr a.fs.length ++ [ptr nb]) (by rw [List.length_append, e0]; exact h3))
  -- the files
  have h5 : Has o w0 w5 (RfC rb (rfCells L.fv L.ov L.lv L.nv a) L.nv a.now L.ov a.old L.lv a.log v' (ptrsV L.addr a.fs.length ++ [ptr nb]) (a.fs.length + 1) (fun j => if j = a.fs.length then fileRP nb v x else fileRP (L.addr j) (L.bv j) (a.file j))) := by
    refine h4.weaken ?_
    unfold RfC
    refine (imp_assoc _ _ _).trans (Part.Imp.sep (Part.Imp.refl _) ?_)
    refine (imp_assoc _ _ _).trans (Part.Imp.sep (Part.Imp.refl _) ?_)
    refine (imp_assoc _ _ _).trans (Part.Imp.sep (Part.Imp.refl _) ?_)
    refine (imp_assoc _ _ _).trans (Part.Imp.sep (Part.Imp.refl _) ?_)
    exact imp_snoc _ _ _
  refine ⟨⟨(h5.rfCell (i := 0) (by omega)).1, (h5.rfCell (i := 0) (by omega)).2.1⟩, ?_⟩
  have h6 := (h5.rfCell (i := 0) (by omega)).2.2 v'
  have e1 : upd (rfCells L.fv L.ov L.lv L.nv a) 0 v' = rfCells v' L.ov L.lv L.nv { a with fs := a.fs ++ [x] } := by
    funext i
    unfold upd
    match i with
    | 1 | 2 | 3 | 4 | 5 | 6 => rfl
    | 0 => rfl
    | i + 7 => rfl
  rw [e1] at h6
  have e2 : (a.fs ++ [x]).length = a.fs.length + 1 := by simp
  unfold RfL
  rw [e2, ptrsV_snoc]
  obtain ⟨o7, h7, b7⟩ := h6.rfFiles
  refine b7 _ _ _ (h7.congr fun j hj => ?_)
  by_cases e : j = a.fs.length
  · subst e
    simp [ADk.file]
  · have hlt : j < a.fs.length := by omega
    simp only [if_neg e]
    have : ({ a with fs := a.fs ++ [x] } : ADk).file j = a.file j := by
      unfold ADk.file
      rw [List.getD_eq_getElem?_getD, List.getD_eq_getElem?_getD, List.getElem?_append_left hlt]
    rw [this]
end Go.Proofs.Ytbankfdgoolbdaa
namespace Go.Proofs.Ytbankfdgoolbdaa
open Go Go.RowKit Go.Lib
set_option linter.unusedVariables false
variable {o : List Nat} {w0 w w' w1 : World} {rb : Nat} {a : ADk} {L : RLay} {l' : Dir}

theorem fileR_app {ad : Nat} {v v' : Value} {x : AFile} {w5 : World} {ys : List UInt8} (h : Has o w0 w (fileRP ad v x)) (happ : Appended w w5 5 1 v v' (x.b ++ ys).length (bytesV (x.b ++ ys))) :
    (∃ A', Has o w0 w5 A') ∧ w5.cell? ⟨ad, 0, none⟩ = some v ∧ w5.frozen? ⟨ad, 0, none⟩ = false ∧ Has o w0 (w5.setCell ⟨ad, 0, none⟩ v') (fileRP ad v' ⟨x.b ++ ys, x.sy⟩) := by
  obtain ⟨o1, h1, _, _, b1⟩ := h.right
  have h2 := b1 w5 _ (h1.appendRow0 happ)
  obtain ⟨o3, h3, _, _, b3⟩ := h2.left
  obtain ⟨c0, f0, st⟩ := h3.blkAt (i := 0) (by omega)
  refine ⟨⟨_, h2⟩, c0, f0, ?_⟩
  have h4 := b3 _ _ (st v')
  have e : upd (fileCells v x.sy) 0 v' = fileCells v' x.sy := by
    funext i
    unfold upd
    match i with
    | 0 => rfl
    | 1 => rfl
    | i + 2 => rfl
  rw [e] at h4
  exact h4

/-- What else there is stands while one file is changed. -/
theorem rfl_other (h : Has o w0 w (RfL rb a L)) {i : Nat} (hi : i < a.fs.length) : ∃ o', Has o' w w (fileRP (L.addr i) (L.bv i) (a.file i)) ∧
    (∀ w' A', Has o' w w' A' → (∀ j, j < 7 → w'.cell? ⟨rb, j, none⟩ = some (rfCells L.fv L.ov L.lv L.nv a j)) ∧ ∀ g n c, L.fv = .slice (some ⟨g, 0, none⟩) n c → ∀ j, j < a.fs.length → w'.cell? ⟨g, j, none⟩ = some (ptr (L.addr j))) ∧
    ∀ w' v x, Has o' w w' (fileRP (L.addr i) v x) → Has o w0 w' (RfL rb { a with fs := a.fs.set i x } { L with bv := fun j => if j = i then v else L.bv j }) := by
  obtain ⟨o1, h1, b1⟩ := h.rfFiles
  obtain ⟨o', h', s2, _, b2⟩ := h1.pick hi
  refine ⟨o', h', fun w' A' hA => ?_, fun w' v x hx => ?_⟩
  · have h3 := b1 w' _ _ (b2 w' A' hA)
    refine ⟨fun j hj => (h3.rfCell hj).1, fun g n c e j hj => ?_⟩
    obtain ⟨o', ⟨_, ⟨hr, _⟩, _⟩, _⟩ := h3.rfPtrs
    have e0 : (ptrsV L.addr a.fs.length).length = a.fs.length := by simp [ptrsV]
    rw [e0] at hr
    obtain ⟨g', c', hv, _, _, _, _, h5⟩ := row_out hr (by omega)
    rw [hv] at e
    injection e with e1 _ _
    injection e1 with e1
    injection e1 with e1
    subst e1
    exact h5 j _ (by unfold ptrsV; rw [List.getElem?_map, List.getElem?_range hj]; rfl)
  · have := b1 w' _ _ (b2 w' _ hx)
    have e : updP (fun i => fileRP (L.addr i) (L.bv i) (a.file i)) i (fileRP (L.addr i) v x) = fun j => fileRP (L.addr j) (if j = i then v else L.bv j) (if j = i then x else a.file j) := by
      funext j
      unfold updP
      by_cases e : j = i
      · subst e; simp
      · simp [if_neg e]
    rw [e] at this
    have e2 : ∀ j, j < a.fs.length → (if j = i then x else a.file j) = ({ a with fs := a.fs.set i x } : ADk).file j := by
      intro j hj
      unfold ADk.file
      rw [List.getD_eq_getElem?_getD, List.getD_eq_getElem?_getD, List.getElem?_set]
      by_cases e : i = j
      · subst e; simp [hj]
      · rw [if_neg e, if_neg (fun h => e h.symm)]
    obtain ⟨o2, h2, b3⟩ := this.rfFiles
    have h3 := b3 w' (a.fs.set i x).length (fun j => fileRP (L.addr j) (if j = i then v else L.bv j) (({ a with fs := a.fs.set i x } : ADk).file j)) (by
      rw [List.length_set]
      exact h2.congr fun j hj => by rw [e2 j hj])
    have e3 : ptrsV L.addr (a.fs.set i x).length = ptrsV L.addr a.fs.length := by rw [List.length_set]
    unfold RfL
    rw [e3]
    exact h3

/-- The last part of Append: bytes behind a file. -/
structure AppEnd (a : ADk) (s : Nm) (bs : List UInt8) (q : ADk) (i : Nat) : Prop where
  lt : i < q.fs.length
  room : (q.file i).b.length + bs.length ≤ 262144
  ops : q.ops < 65536
  res : a.append s bs = (0, { q with fs := q.fs.set i ⟨(q.file i).b ++ bs, (q.file i).sy⟩ }.did)

theorem bad_false (a : ADk) (s : Nm) : a.bad false [s] = if a.off then 24 else if isNm s = false then 20 else if 65536 ≤ a.ops then 23 else 0 := by
  unfold ADk.bad
  simp

theorem app_full {a : ADk} {s : Nm} {bs : List UInt8} (hoff : a.powered.off = false) (hnm : isNm s = true) (h : 65536 ≤ a.powered.ops ∨ 262144 < bs.length + (match alFind a.powered.now s with | none => 0 | some i => (a.powered.file i).b.length) ∨ (alFind a.powered.now s = none ∧ 64 ≤ a.powered.now.length)) :
    a.append s bs = (23, a.powered) := by
  have hb := bad_false a.powered s
  rw [hoff, hnm] at hb
  simp only [Bool.false_eq_true, if_false] at hb
  unfold ADk.append
  simp only
  by_cases ho : 65536 ≤ a.powered.ops
  · rw [if_neg (by simp), if_pos ho] at hb
    rw [hb]
    rfl
  · rw [if_neg (by simp), if_neg ho] at hb
    rw [hb, if_neg (by simp)]
    have h := h.resolve_left ho
    cases hf : alFind a.powered.now s with
    | none =>
      rw [hf] at h
      simp only [Nat.add_zero] at h
      simp only
      rw [if_pos (by rcases h with h | h; exact .inr h; exact .inl h.2)]
    | some i =>
      rw [hf] at h
      simp only at h ⊢
      rw [if_pos (h.resolve_right fun h => by cases h.1)]

theorem app_new_end {a : ADk} {s : Nm} {bs : List UInt8} (hoff : a.powered.off = false) (hnm : isNm s = true) (ho : a.powered.ops < 65536) (hf : alFind a.powered.now s = none) (hl : a.powered.now.length < 64) (hbs : bs.length ≤ 262144) :
    AppEnd a s bs (ADk.change { a.powered with fs := a.powered.fs ++ [AFile.mk [] 0] } (.mk s a.powered.fs.length)) a.powered.fs.length := by
  have hb := bad_false a.powered s
  rw [hoff, hnm] at hb
  simp only [Bool.false_eq_true, if_false] at hb
  rw [if_neg (by simp), if_neg (by omega)] at hb
  have hfile : (ADk.change { a.powered with fs := a.powered.fs ++ [AFile.mk [] 0] } (.mk s a.powered.fs.length)).file a.powered.fs.length = ⟨[], 0⟩ := by
    show (a.powered.fs ++ [AFile.mk [] 0]).getD _ _ = _
    simp
  refine ⟨?_, ?_, ho, ?_⟩
  · show a.powered.fs.length < (a.powered.fs ++ [AFile.mk [] 0]).length
    simp
  · rw [hfile]; simpa using hbs
  · rw [hfile]
    unfold ADk.append
    simp only [hb, hf]
    rw [if_neg (by simp), if_neg (by omega)]
    simp only [ADk.change, ADk.did, List.nil_append]
    congr 2
    rw [List.set_append_right _ _ (Nat.le_refl _)]
    simp

theorem app_old_end {a : ADk} {s : Nm} {bs : List UInt8} (hok : a.powered.Ok) (hoff : a.powered.off = false) (hnm : isNm s = true) (ho : a.powered.ops < 65536) {i : Nat} (hf : alFind a.powered.now s = some i) (hbs : bs.length + (a.powered.file i).b.length ≤ 262144) :
    AppEnd a s bs a.powered i := by
  have hb := bad_false a.powered s
  rw [hoff, hnm] at hb
  simp only [Bool.false_eq_true, if_false] at hb
  rw [if_neg (by simp), if_neg (by omega)] at hb
  refine ⟨hok.now.ids _ (alFind_mem hf), by omega, ho, ?_⟩
  unfold ADk.append
  simp only [hb, hf]
  rw [if_neg (by simp), if_neg (by omega)]
end Go.Proofs.Ytbankfdgoolbdaa
namespace Go.Proofs.Ytbankfdgoolbdaa
open Go Go.RowKit Go.Lib
set_option linter.unusedVariables false
variable {o : List Nat} {w0 w w' w1 : World} {rb : Nat} {a : ADk} {L : RLay}

/-- The bytes from s on, m of them, turned. -/
def upTo (c : List UInt8) (s m : Nat) : List UInt8 := c.mapIdx fun j b => if s ≤ j ∧ j < s + m then b ^^^ 255 else b

theorem upTo_len (c : List UInt8) (s m : Nat) : (upTo c s m).length = c.length := by simp [upTo]
theorem upTo_get (c : List UInt8) (s m j : Nat) : (upTo c s m)[j]? = (c[j]?).map fun b => if s ≤ j ∧ j < s + m then b ^^^ 255 else b := by
  unfold upTo
  rw [List.getElem?_mapIdx]
theorem upTo_zero (c : List UInt8) (s : Nat) : upTo c s 0 = c := by
  refine List.ext_getElem? fun j => ?_
  rw [upTo_get]
  cases h : c[j]? with
  | none => rfl
  | some b => simp only [Option.map_some]; rw [if_neg (by omega)]
theorem upTo_succ {c : List UInt8} {s m : Nat} (h : s + m < c.length) : (upTo c s m).set (s + m) ((c.getD (s + m) 0) ^^^ 255) = upTo c s (m + 1) := by
  refine List.ext_getElem? fun j => ?_
  rw [List.getElem?_set, upTo_len, upTo_get, upTo_get]
  by_cases e : s + m = j
  · subst e
    rw [if_pos rfl, if_pos h, List.getD_eq_getElem?_getD, List.getElem?_eq_getElem h]
    simp only [Option.getD_some, Option.map_some]
    rw [if_pos (by omega)]
  · rw [if_neg e]
    cases h : c[j]? with
    | none => rfl
    | some b =>
      simp only [Option.map_some]
      by_cases e2 : s ≤ j ∧ j < s + m
      · rw [if_pos e2, if_pos (by omega)]
      · rw [if_neg e2, if_neg (by omega)]
theorem upTo_at {c : List UInt8} {s m : Nat} (h : s + m < c.length) : (upTo c s m)[s + m]? = some (c.getD (s + m) 0) := by
  rw [upTo_get, List.getElem?_eq_getElem h, List.getD_eq_getElem?_getD, List.getElem?_eq_getElem h]
  simp only [Option.map_some, Option.getD_some]
  rw [if_neg (by omega)]
theorem upTo_torn (c : List UInt8) (t : Nat) (h : t ≤ c.length) : upTo c (c.length - t) t = torn c t := by
  refine List.ext_getElem? fun j => ?_
  rw [upTo_get]
  unfold torn
  by_cases e : j < c.length - t
  · rw [List.getElem?_append_left (by rw [List.length_take]; omega), List.getElem?_take_of_lt e]
    cases h : c[j]? with
    | none => rfl
    | some b => simp only [Option.map_some]; rw [if_neg (by omega)]
  · rw [List.getElem?_append_right (by rw [List.length_take]; omega), List.getElem?_map, List.getElem?_drop, List.length_take]
    by_cases e2 : j < c.length
    · rw [show c.length - t + (j - min (c.length - t) c.length) = j by omega, List.getElem?_eq_getElem e2]
      simp only [Option.map_some]
      rw [if_pos (by omega)]
    · rw [List.getElem?_eq_none (by omega : c.length ≤ j), List.getElem?_eq_none (by omega)]
      rfl

theorem chgFlat_get : ∀ (l : List Chg) (i : Nat) (c : Chg), l[i]? = some c → ∀ j, j < 3 → (chgFlat l)[i * 3 + j]? = (chgVals c)[j]?
  | [], i, c, h, _, _ => by cases h
  | x :: r, 0, c, h, j, hj => by
    cases h
    obtain ⟨A, B, n, e⟩ := chgVals_is x
    show ((chgVals x).toList ++ chgFlat r)[0 * 3 + j]? = _
    rw [e, List.getElem?_append_left (by show 0 * 3 + j < 3; omega), Nat.zero_mul, Nat.zero_add, Array.getElem?_toList]
  | x :: r, i + 1, c, h, j, hj => by
    have := chgFlat_get r i c h j hj
    obtain ⟨A, B, n, e⟩ := chgVals_is x
    show ((chgVals x).toList ++ chgFlat r)[(i + 1) * 3 + j]? = _
    have el : (chgVals x).toList.length = 3 := by rw [e]; rfl
    rw [List.getElem?_append_right (by rw [el]; omega), el, show (i + 1) * 3 + j - 3 = i * 3 + j by omega]
    exact this

/-- A change in the log. -/
theorem rfl_logAt (h : Has o w0 w (RfL rb a L)) : ∃ p c, L.lv = .slice p a.log.length c ∧ a.log.length ≤ c ∧ ∀ i x, a.log[i]? = some x → ∃ g, p = some ⟨g, 0, none⟩ ∧ ∀ j, j < 3 → w.cell? ⟨g, i * 3 + j, none⟩ = (chgVals x)[j]? := by
  obtain ⟨o', ⟨_, ⟨hr, _⟩, _⟩, _⟩ := h.rfLog
  rcases rowN_open hr with ⟨e, h0⟩ | ⟨g, c, e, h1, _, _, _, h4⟩
  · exact ⟨_, _, by rw [e, h0], by omega, fun i x hx => by have := (List.getElem?_eq_some_iff.1 hx).1; omega⟩
  · refine ⟨_, _, e, h1, fun i x hx => ⟨g, rfl, fun j hj => ?_⟩⟩
    have h5 := chgFlat_get _ _ _ hx j hj
    obtain ⟨A, B, n, ee⟩ := chgVals_is x
    have h6 : ∃ u, (chgVals x)[j]? = some u := by
      rw [ee]
      exact ⟨_, Array.getElem?_eq_getElem (by show j < 3; exact hj)⟩
    obtain ⟨u, hu⟩ := h6
    rw [hu] at h5 ⊢
    exact h4 _ _ h5

/-! ### the new disk under way -/
def rfNew (fv ov : Value) : Nat → Value := rfCells fv ov (.slice none 0 0) (.slice none 0 0) ADk.new

structure CrLay where
  fv : Value
  ov : Value
  addr : Nat → Nat
  bv : Nat → Value

def CrR (rb : Nat) (L : CrLay) (l : Dir) (i : Nat) (x : Nat → AFile) : Part :=
  (Part.blk rb 7 82 (rfNew L.fv L.ov)).sep ((Part.nms L.ov ((numbered l).take i)).sep ((Part.row 91 1 L.fv i (ptrsV L.addr i)).sep (Part.all i fun j => fileRP (L.addr j) (L.bv j) (x j))))

variable {l : Dir} {i : Nat} {x : Nat → AFile} {C : CrLay}

theorem crr_begin (w : World) (l : Dir) (x : Nat → AFile) : Has [] w (w.alloc (.cells #[.slice none 0 0, .slice none 0 0, .slice none 0 0, .slice none 0 0, .int .i64 0, .int .i64 (-1), .bool false] 82)) (CrR w.heap.size ⟨.slice none 0 0, .slice none 0 0, fun _ => 0, fun _ => .slice none 0 0⟩ l 0 x) := by
  have hB := Has.madeBlk (w := w) #[.slice none 0 0, .slice none 0 0, .slice none 0 0, .slice none 0 0, .int .i64 0, .int .i64 (-1), .bool false] 82 (rfNew (.slice none 0 0) (.slice none 0 0)) 7 rfl (by
    intro i hi
    match i with
    | 0 | 1 | 2 | 3 | 4 | 5 | 6 => rfl
    | i + 7 => omega)
  have h2 := has_nil (w.alloc (.cells #[.slice none 0 0, .slice none 0 0, .slice none 0 0, .slice none 0 0, .int .i64 0, .int .i64 (-1), .bool false] 82))
  have h4 : Has [] (w.alloc (.cells #[.slice none 0 0, .slice none 0 0, .slice none 0 0, .slice none 0 0, .int .i64 0, .int .i64 (-1), .bool false] 82)) _ (Part.row 91 1 (.slice none 0 0) 0 []) :=
    ⟨[], ⟨World.ownsRow_nil _ _ _ _, by simp [rowsOf, Value.ownBlock]⟩, by simp, Kept.refl _ _⟩
  exact hB.beside (h2.beside (h4.beside (Has.nothing _)))

theorem crr_cell (h : Has o w0 w (CrR rb C l i x)) (j : Nat) (hj : j < 7) : w.cell? ⟨rb, j, none⟩ = some (rfNew C.fv C.ov j) ∧ w.frozen? ⟨rb, j, none⟩ = false := by
  obtain ⟨o', h1, _⟩ := h.left
  exact ⟨(h1.blkAt hj).1, (h1.blkAt hj).2.1⟩

/-- A file more. -/
theorem crr_file (h : Has o w0 w (CrR rb C l i x)) {nb : Nat} {v : Value} (hB : Has [] w w' (fileRP nb v (x i))) {v' : Value} {w5 : World} {ob : Obj}
    (happ : Appended (w'.alloc ob) w5 91 1 C.fv v' (i + 1) (ptrsV C.addr i ++ [ptr nb])) :
    (w5.cell? ⟨rb, 0, none⟩ = some C.fv ∧ w5.frozen? ⟨rb, 0, none⟩ = false) ∧ Has o w0 (w5.setCell ⟨rb, 0, none⟩ v') ((Part.blk rb 7 82 (rfNew v' C.ov)).sep ((Part.nms C.ov ((numbered l).take i)).sep ((Part.row 91 1 v' (i + 1) (ptrsV (fun j => if j = i then nb else C.addr j) (i + 1))).sep (Part.all (i + 1) fun j => fileRP (if j = i then nb else C.addr j) (if j = i then v else C.bv j) (x j))))) := by
  have h0 := h.beside hB
  obtain ⟨o1, h1, _, _, b1⟩ := h0.left
  obtain ⟨o2, h2, _, _, b2⟩ := h1.right
  obtain ⟨o3, h3, _, _, b3⟩ := h2.right
  obtain ⟨o4, h4, _, _, b4⟩ := h3.left
  have h5 := b1 _ _ (b2 _ _ (b3 _ _ (b4 _ _ (Has.rowAppend ob h4 happ))))
  have h6 : Has o w0 w5 ((Part.blk rb 7 82 (rfNew C.fv C.ov)).sep ((Part.nms C.ov ((numbered l).take i)).sep ((Part.row 91 1 v' (i + 1) (ptrsV C.addr i ++ [ptr nb])).sep (Part.all (i + 1) fun j => if j = i then fileRP nb v (x i) else fileRP (C.addr j) (C.bv j) (x j))))) := by
    refine h5.weaken ?_
    refine (imp_assoc _ _ _).trans (Part.Imp.sep (Part.Imp.refl _) ?_)
    refine (imp_assoc _ _ _).trans (Part.Imp.sep (Part.Imp.refl _) ?_)
    refine (imp_assoc _ _ _).trans (Part.Imp.sep (Part.Imp.refl _) ?_)
    exact imp_snoc _ _ _
  obtain ⟨o7, h7, _, _, b7⟩ := h6.left
  obtain ⟨c0, f0, st⟩ := h7.blkAt (i := 0) (by omega)
  refine ⟨⟨c0, f0⟩, ?_⟩
  have h8 := b7 _ _ (st v')
  have e : upd (rfNew C.fv C.ov) 0 v' = rfNew v' C.ov := by
    funext i
    unfold upd
    match i with
    | 1 | 2 | 3 | 4 | 5 | 6 => rfl
    | 0 => rfl
    | i + 7 => rfl
  rw [e] at h8
  rw [ptrsV_snoc]
  refine h8.weaken (Part.Imp.sep (Part.Imp.refl _) (Part.Imp.sep (Part.Imp.refl _) (Part.Imp.sep (Part.Imp.refl _) (imp_congr fun j hj => ?_))))
  by_cases e : j = i
  · subst e; simp
  · simp [if_neg e]

/-- And its name. -/
theorem crr_name {fv ov : Value} {ad : Nat → Nat} {bv : Nat → Value} {n m : Nat} (h : Has o w0 w ((Part.blk rb 7 82 (rfNew fv ov)).sep ((Part.nms ov ((numbered l).take i)).sep ((Part.row 91 1 fv n (ptrsV ad n)).sep (Part.all m fun j => fileRP (ad j) (bv j) (x j))))))
    (hi : i < l.length) {v' : Value} {w5 : World} {ob : Obj} (happ : Appended (w.alloc ob) w5 97 2 ov v' (((numbered l).take i).length + 1) (nmFlat ((numbered l).take i) ++ nmVals (nmAt l i, i))) :
    (w5.cell? ⟨rb, 1, none⟩ = some ov ∧ w5.frozen? ⟨rb, 1, none⟩ = false) ∧ Has o w0 (w5.setCell ⟨rb, 1, none⟩ v') ((Part.blk rb 7 82 (rfNew fv v')).sep ((Part.nms v' ((numbered l).take (i + 1))).sep ((Part.row 91 1 fv n (ptrsV ad n)).sep (Part.all m fun j => fileRP (ad j) (bv j) (x j))))) := by
  obtain ⟨o2, h2, _, _, b2⟩ := h.right
  obtain ⟨o3, h3, _, _, b3⟩ := h2.left
  have h4 := nms_app h3 happ
  have e0 : (numbered l).take i ++ [(nmAt l i, i)] = (numbered l).take (i + 1) := by
    have hg := numbered_get hi
    obtain ⟨hlt, e⟩ := List.getElem?_eq_some_iff.1 hg
    rw [List.take_succ_eq_append_getElem hlt, e]
  rw [e0] at h4
  have h5 := b2 _ _ (b3 _ _ h4)
  obtain ⟨o7, h7, _, _, b7⟩ := h5.left
  obtain ⟨c0, f0, st⟩ := h7.blkAt (i := 1) (by omega)
  refine ⟨⟨c0, f0⟩, ?_⟩
  have h8 := b7 _ _ (st v')
  have e : upd (rfNew fv ov) 1 v' = rfNew fv v' := by
    funext i
    unfold upd
    match i with
    | 0 | 2 | 3 | 4 | 5 | 6 => rfl
    | 1 => rfl
    | i + 7 => rfl
  rw [e] at h8
  exact h8

/-- The end: Now is Old. -/
theorem crr_end (h : Has o w0 w (CrR rb C l l.length x)) (fs : List AFile) (hfs : fs.length = l.length) (hx : ∀ j, j < l.length → fs.getD j ⟨[], 0⟩ = x j) :
    Has o w0 (w.setCell ⟨rb, 3, none⟩ C.ov) (RfL rb ⟨fs, numbered l, numbered l, [], 0, -1, false⟩ ⟨C.ov, C.ov, .slice none 0 0, C.fv, C.addr, C.bv⟩) := by
  have e0 : (numbered l).take l.length = numbered l := List.take_of_length_le (by simp [numbered])
  unfold CrR at h
  rw [e0] at h
  obtain ⟨o1, h1, _, _, b1⟩ := h.left
  have h2 := b1 _ _ ((h1.blkAt (i := 3) (by omega)).2.2 C.ov)
  have e : upd (rfNew C.fv C.ov) 3 C.ov = rfCells C.fv C.ov (.slice none 0 0) C.ov ⟨fs, numbered l, numbered l, [], 0, -1, false⟩ := by
    funext i
    unfold upd
    match i with
    | 0 | 1 | 2 | 4 | 5 | 6 => rfl
    | 3 => rfl
    | i + 7 => rfl
  rw [e] at h2
  refine h2.weaken ?_
  unfold RfL RfC
  refine Part.Imp.sep (Part.Imp.refl _) (Part.Imp.sep ?_ ?_)
  · rintro w fp ⟨hr, rfl⟩
    exact ⟨_, ⟨hr, hr, rfl⟩, fun x hx => by simpa using hx⟩
  · rintro w fp hA
    refine ⟨fp, ⟨[], fp, ⟨World.ownsRow_nil _ _ _ _, by simp [rowsOf, Value.ownBlock]⟩, ?_, by simp, by simp⟩, fun x hx => hx⟩
    obtain ⟨f, g, h1, h2, h3, h4⟩ := hA
    refine ⟨f, g, ?_, ?_, h3, h4⟩
    · have e3 : (ptrsV C.addr l.length).length = l.length := by simp [ptrsV]
      show (Part.row 91 1 C.fv (ptrsV C.addr fs.length).length (ptrsV C.addr fs.length)).at_ w f
      rw [hfs, e3]
      exact h1
    · show (Part.all fs.length _).at_ w g
      rw [hfs]
      obtain ⟨F, h5, h6, h7⟩ := h2
      refine ⟨F, fun j hj => ?_, h6, h7⟩
      have h8 : (fileRP (C.addr j) (C.bv j) (x j)).at_ w (F j) := h5 j hj
      rw [← hx j hj] at h8
      exact h8

theorem rnew_eq (w : World) : Calls Try.prog 24 #[] w fun e w' => e = .returned (ptr w.heap.size) ∧ w' = w.alloc (.cells #[.slice none 0 0, .slice none 0 0, .slice none 0 0, .slice none 0 0, .int .i64 0, .int .i64 (-1), .bool false] 82) := by
  go_enter Try.func24, Try.ntmps24
  go_wp2_with fail
  go_ret
  exact ⟨rfl, rfl⟩
end Go.Proofs.Ytbankfdgoolbdaa
namespace Go.Proofs.Ytbankfdgoolbdaa
open Go Go.RowKit Go.Lib
set_option linter.unusedVariables false
variable {o : List Nat} {w0 w w' w1 : World} {rb : Nat} {a : ADk} {L : RLay} {l : Dir}

set_option maxHeartbeats 20000000 in
set_option maxRecDepth 100000 in
theorem rcrash_walk (h : Has o w0 w (Rf rb a)) (keep dirs tear : Int) (hr : Rng dirs) :
    Calls Try.prog 49 #[ptr rb, .agg #[.int .i64 keep, .int .i64 dirs, .int .i64 tear]] w fun e w' => ∃ rb2, e = .returned (ptr rb2) ∧ Has [] w w' (Rf rb2 (a.crash keep dirs tear)) := by
  obtain ⟨ha, L, hL⟩ := rf_open h
  have HOF := Lib.hid (ADk.crash_okf (rf_okf h) keep dirs tear)
  have hk0 : Kept [] w (w.alloc (.cells #[.int .i64 keep, .int .i64 dirs, .int .i64 tear] 29)) := (Kept.refl _ _).alloc _
  have c0 : (w.alloc (.cells #[.int .i64 keep, .int .i64 dirs, .int .i64 tear] 29)).cell? ⟨w.heap.size, 0, none⟩ = some (.int .i64 keep) := by rw [World.cell?_alloc_mark]; rfl
  have c1 : (w.alloc (.cells #[.int .i64 keep, .int .i64 dirs, .int .i64 tear] 29)).cell? ⟨w.heap.size, 1, none⟩ = some (.int .i64 dirs) := by rw [World.cell?_alloc_mark]; rfl
  have c2 : (w.alloc (.cells #[.int .i64 keep, .int .i64 dirs, .int .i64 tear] 29)).cell? ⟨w.heap.size, 2, none⟩ = some (.int .i64 tear) := by rw [World.cell?_alloc_mark]; rfl
  have hLa := hL.quiet hk0
  have c1o : (w.alloc (.cells #[.int .i64 keep, .int .i64 dirs, .int .i64 tear] 29)).cell? ⟨rb, 1, none⟩ = some L.ov := (rfl_cell hLa 1 (by omega)).1
  have hov := rfl_old hLa
  obtain ⟨lp, lc, hlv, hlc, hlog⟩ := rfl_logAt hLa
  obtain ⟨op, oc, hovv, _⟩ := hov.len
  have HFC := Lib.hid (And.intro c0 (And.intro c1 c2))
  have HLA := Lib.hid hLa
  have HOV := Lib.hid hov
  have HLV := Lib.hid hlv
  have HLG := Lib.hid hlog
  have HA := Lib.hid ha
  have HK0 := Lib.hid hk0
  have hlg : a.log.length ≤ 65536 := (ok_bounds ha).1
  obtain ⟨k, hk⟩ : ∃ k, min a.log.length dirs.toNat = k := ⟨_, rfl⟩
  have hkl : k ≤ a.log.length := by omega
  have hkd : (k : Int) ≤ max dirs 0 := by omega
  have HK := Lib.hid hk
  obtain ⟨hr1, hr2⟩ := hr
  rw [hovv] at c1o
  clear h hL hLa hov hlv hlog ha hk0 c0 c1 c2 hk
  unfold ptr
  go_enter Try.func49, Try.ntmps49
  go_upto_block 0 with fail
  generalize hW1 : (w.alloc (.cells #[.int .i64 keep, .int .i64 dirs, .int .i64 tear] 29)) = W1 at *
  generalize w.heap.size = fb at *
  clear hW1
  go_cut [5] from 15 (fun s5 wx => ∃ (l : Dir), runLog a.old (a.log.take k) = some l ∧ DirAt wx s5 l ∧ Kept [] W1 wx)
  case first =>
    go_wp2_with fail
    go_loopg [5, 6] k (fun kk lv iv wr => ∃ (i : Nat) (l : Dir), i ≤ k ∧ kk = k - i ∧ iv = .int .i64 i ∧ runLog a.old (a.log.take i) = some l ∧ DirAt wr lv l ∧ Kept [] W1 wr)
    case atStart => exact ⟨0, a.old, Nat.zero_le _, rfl, rfl, rfl, by have := HOV.out; rwa [hovv] at this, Kept.refl _ _⟩
    case round =>
      obtain ⟨i, l, hi, hkk, rfl, hrl, hD, hK⟩ := hrel
      have HKK := Lib.hid hkk
      have HRL := Lib.hid hrl
      have HD := Lib.hid hD
      have HKE := Lib.hid hK
      obtain ⟨hld, hlgd, hdo⟩ := HA.out.prefix i
      rw [hrl] at hlgd
      obtain rfl : l = hld := Option.some.inj hlgd
      have HDO := Lib.hid hdo
      have hLr := HLA.out.quiet hK
      have c2 : wr.cell? ⟨rb, 2, none⟩ = some L.lv := (rfl_cell hLr 2 (by omega)).1
      rw [HLV.out] at c2
      have e1 : wr.cell? ⟨fb, 1, none⟩ = some (.int .i64 dirs) := hK.cell HFC.out.2.1 (by simp)
      obtain ⟨vp, vc, hvv, _⟩ := hD.len
      subst hvv
      clear hkk hrl hlgd hLr
      by_cases hlt : i < k
      · have d1 : ((i : Int) < (a.log.length : Int)) ↔ True := by simp; omega
        have d2 : ((i : Int) < dirs) ↔ True := by simp; omega
        have hil : i < a.log.length := by omega
        obtain ⟨c, hc⟩ : ∃ c, a.log[i]? = some c := ⟨_, List.getElem?_eq_getElem hil⟩
        obtain ⟨g, rfl, hcl⟩ := HLG.out i c hc
        obtain ⟨A, B, nn, hcv⟩ := chgVals_is c
        have f0 : wr.cell? ⟨g, i * 3, none⟩ = some (.string A) := hK.cell (by have := hcl 0 (by omega); rw [hcv] at this; exact this) (by simp)
        have f1 : wr.cell? ⟨g, i * 3 + 1, none⟩ = some (.string B) := hK.cell (by have := hcl 1 (by omega); rw [hcv] at this; exact this) (by simp)
        have f2 : wr.cell? ⟨g, i * 3 + 2, none⟩ = some (.int .i64 nn) := hK.cell (by have := hcl 2 (by omega); rw [hcv] at this; exact this) (by simp)
        obtain ⟨l', hl', _⟩ := HA.out.prefix (i + 1)
        have hon : c.on l = some l' := by rw [← runLog_snoc HRL.out hc]; exact hl'
        have hch := changed_walk hD hdo.len c hon (HA.out.named c (List.mem_of_getElem? hc))
        rw [hcv] at hch
        have HCH := Lib.hid hch
        have HL' := Lib.hid hl'
        have hd : decide (i < a.log.length) = true := decide_eq_true hil
        have hdc : i < lc := by omega
        generalize a.log.length = ll at *
        generalize l.length = ln at *
        clear hcl hc hcv hl' hon hch hD hdo hK
        go_wp2_with fail
        refine HCH.out.mono ?_
        rintro e w6 ⟨v6, rfl, h6⟩
        have hd6 := h6.dirAt
        obtain ⟨xp, xc, hxv, _⟩ := hd6.len
        subst hxv
        have HD6 := Lib.hid hd6
        have HK6 := Lib.hid (HKE.out.tr h6.keeps)
        clear h6 hd6 HCH
        go_wp2_with fail
        go_roundg (k - (i + 1))
        case measure => rw [HKK.out]; omega
        case rel => exact ⟨i + 1, l', by omega, rfl, by go_num, HL'.out, HD6.out, HK6.out⟩
      · obtain rfl : i = k := by omega
        have d9 : ((i : Int) < (a.log.length : Int)) ∧ ((i : Int) < dirs) → False := by have := HK.out; omega
        clear hdo hD
        by_cases hlen : i < a.log.length
        · have d1 : ((i : Int) < (a.log.length : Int)) ↔ True := by simp; omega
          have d2 : ((i : Int) < dirs) ↔ False := ⟨fun hq => d9 ⟨by omega, hq⟩, False.elim⟩
          clear d9 hK
          go_wp2_with fail
          go_meet
          exact ⟨l, HRL.out, HD.out, HKE.out⟩
        · have d1 : ((i : Int) < (a.log.length : Int)) ↔ False := by simp; omega
          clear d9 hK
          go_wp2_with fail
          go_meet
          exact ⟨l, HRL.out, HD.out, HKE.out⟩
  case rest =>
  obtain ⟨l, hrl, hD, hK⟩ := hcut
  have HRL := Lib.hid hrl
  have HD := Lib.hid hD
  have HKE := Lib.hid hK
  obtain ⟨hld, hlgd, hdo⟩ := HA.out.prefix k
  rw [hrl] at hlgd
  obtain rfl : l = hld := Option.some.inj hlgd
  have HDO := Lib.hid hdo
  obtain ⟨vp, vc, hvv, _⟩ := hD.len
  subst hvv
  clear hrl hlgd hD hK hdo
  obtain ⟨n, hn⟩ : ∃ n, l.length = n := ⟨_, rfl⟩
  have hn64 : n ≤ 64 := by rw [← hn]; exact HDO.out.len
  rw [hn]
  have HN := Lib.hid hn
  obtain ⟨wr, hwr⟩ : ∃ x, x = wc := ⟨_, rfl⟩
  subst hwr
  clear hn
  obtain ⟨wA, hwA⟩ : ∃ x, x = wr := ⟨_, rfl⟩
  subst hwA
  go_wp2_with fail
  refine (rnew_eq _).mono ?_
  rintro e w2 ⟨rfl, hw2⟩
  obtain ⟨X, hX⟩ : ∃ X : Nat → AFile, (fun j => (a.file (l.getD j ([], 0)).2).left keep tear) = X := ⟨_, rfl⟩
  have hB := crr_begin wA l X
  rw [← hw2] at hB
  have HB := Lib.hid hB
  have HX := Lib.hid hX
  clear hB hw2 hX c1o
  unfold ptr
  generalize wA.heap.size = rb2 at *
  go_wp2_with fail
  go_loopg [8] n (fun kk iv wq => ∃ (j : Nat) (C : CrLay), j ≤ n ∧ kk = n - j ∧ iv = .int .i64 j ∧ Has [] wA wq (CrR rb2 C l j X))
  case atStart => exact ⟨0, _, Nat.zero_le _, rfl, rfl, HB.out⟩
  case round =>
    obtain ⟨j, C, hj, hkk, rfl, hR⟩ := hrel
    have HJK := Lib.hid hkk
    clear hkk HB
    by_cases hlt2 : j < n
    · have d1 : ((j : Int) < (n : Int)) ↔ True := by simp; omega
      obtain ⟨p, hp⟩ : ∃ p, l[j]? = some p := ⟨_, List.getElem?_eq_getElem (by have := HN.out; omega)⟩
      obtain ⟨s, fi⟩ := p
      have hmem : (s, fi) ∈ l := List.mem_of_getElem? hp
      have hfil : fi < a.fs.length := HDO.out.ids _ hmem
      have hgd : l.getD j ([], 0) = (s, fi) := by rw [List.getD_eq_getElem?_getD, hp]; rfl
      have hnat : nmAt l j = s := by unfold nmAt; rw [hgd]
      -- two draws ahead
      have hR2 := (hR.drewN 1).drewN 1
      change Has [] wA wr.drew.drew _ at hR2
      have hk2 := ((Kept.refl [] wr).drewN 1).drewN 1
      change Kept [] wr wr.drew.drew at hk2
      have KQ := HKE.out.tr hR.keeps
      have hLq := HLA.out.quiet KQ
      obtain ⟨g, cq, ev, hcq, c1, c2⟩ := (HD.out.kept hR.keeps (by simp)).cells hp
      rw [HN.out] at ev hcq
      obtain ⟨rfl, rfl⟩ : vp = some ⟨g, 0, none⟩ ∧ vc = cq := by injection ev with e1 _ e2; exact ⟨e1, e2⟩
      have c0 : wr.cell? ⟨rb, 0, none⟩ = some L.fv := (rfl_cell hLq 0 (by omega)).1
      obtain ⟨g2, fc, hfv, hgc, _, cp⟩ := rfl_ptr hLq hfil
      rw [hfv] at c0
      unfold ptr at cp
      have hLq2 := hLq.quiet hk2
      obtain ⟨o9, hF9, _⟩ := rfl_file hLq hfil
      obtain ⟨m0, m1, _, _, _, hrow⟩ := fileR_at hF9
      obtain ⟨bp, bc, hbv, hbc, hpre⟩ := bytesAt_pre hrow
      rw [hbv] at m0
      have hfok := a.file_ok HA.out fi
      have e0 : wr.cell? ⟨fb, 0, none⟩ = some (.int .i64 keep) := KQ.cell HFC.out.1 (by simp)
      have e2 : wr.cell? ⟨fb, 2, none⟩ = some (.int .i64 tear) := KQ.cell HFC.out.2.2 (by simp)
      have hcl := clamp_eq keep ((a.file fi).b.length - (a.file fi).sy)
      rw [Int.ofNat_sub hfok.2] at hcl
      obtain ⟨kp, hkp⟩ : ∃ kp, clamp keep ((a.file fi).b.length - (a.file fi).sy) = kp := ⟨_, rfl⟩
      rw [hkp] at hcl
      have hkl2 : (a.file fi).sy + kp ≤ (a.file fi).b.length := by
        have : kp ≤ (a.file fi).b.length - (a.file fi).sy := by rw [← hkp]; exact Nat.min_le_right _ _
        omega
      have hct := clamp_eq tear kp
      obtain ⟨tt, htt⟩ : ∃ tt, clamp tear kp = tt := ⟨_, rfl⟩
      rw [htt] at hct
      have htk : tt ≤ kp := by rw [← htt]; exact Nat.min_le_right _ _
      -- what the file comes to
      have hleft := left_eq (a.file fi) hfok.2 keep tear
      rw [hkp, htt] at hleft
      obtain ⟨cb, hcb⟩ : ∃ cb, (a.file fi).b.take ((a.file fi).sy + kp) = cb := ⟨_, rfl⟩
      rw [hcb] at hleft
      obtain ⟨nk, hnk⟩ : ∃ nk, (a.file fi).sy + kp = nk := ⟨_, rfl⟩
      have hclen : cb.length = nk := by rw [← hcb, List.length_take]; omega
      rw [hclen] at hleft
      have hxj : X j = ⟨torn cb tt, nk⟩ := by rw [← HX.out]; show (a.file (l.getD j ([], 0)).2).left keep tear = _; rw [hgd]; exact hleft
      have HBX := Lib.hid (fun (W : World) (k : Kept [] wr W) => ((hpre nk (by omega)).kept k (by simp)).x)
      rw [hnk] at hcb
      rw [hcb] at HBX
      have hlen9 := hfok.1
      obtain ⟨n1, hn1⟩ : ∃ n1, (a.file fi).b.length = n1 := ⟨_, rfl⟩
      obtain ⟨n2, hn2⟩ : ∃ n2, (a.file fi).sy = n2 := ⟨_, rfl⟩
      rw [hn2] at m1 hcl hkl2 hnk
      rw [hn1] at m0 hcl hkl2 hlen9 hbc
      have hsub : n2 ≤ n1 := by omega
      have q0 : (n2 : Int) + (kp : Int) = (nk : Int) := by omega
      have q1 : IntKind.i64.wrap ((n2 : Int) + (kp : Int)) = (nk : Int) := by rw [q0]; exact IntWalk.i64_in _ (by omega)
      have q2 : (0 : Int) ≤ (nk : Int) := by omega
      have q3 : (nk : Int) ≤ (bc : Int) := by omega
      have q5 : IntKind.i64.wrap (nk : Int) = (nk : Int) := IntWalk.i64_in _ (by omega)
      have q6 : nk ≤ 262144 := by omega
      have q7 : tt ≤ nk := by omega
      have HR2 := Lib.hid hR2
      have HK2 := Lib.hid hk2
      have HXJ := Lib.hid hxj
      have HCLEN := Lib.hid hclen
      have HNAT := Lib.hid hnat
      have HREST := Lib.hid (And.intro hfv (And.intro hgd hleft))
      have hdj : decide (j < n) = true := decide_eq_true hlt2
      have hdf : decide (fi < a.fs.length) = true := decide_eq_true hfil
      have hlf := hfil
      have hvc : j < vc := by omega
      have hfc : fi < fc := by omega
      obtain ⟨Z, hZ⟩ : ∃ Z, (⟨s.toArray⟩ : ByteArray) = Z := ⟨_, rfl⟩
      rw [hZ] at c1
      have HZ := Lib.hid hZ
      have HP := Lib.hid hp
      generalize a.fs.length = fl at *
      clear hp hmem hgd hnat hR hR2 hk2 KQ hLq ev hfv hLq2 hF9 hrow hbv hpre hfok hkp htt hleft hcb hnk hclen hxj hn1 hn2 hfil hZ
      go_wp2_with fail
      go_region
      go_wp2_with fail
      go_region
      -- the bytes
      have hrow0 : Has [] wr.drew.drew (wr.drew.drew.alloc (.cells #[] 5)) (.row 5 1 (.slice (some ⟨wr.heap.size, 0, none⟩) ([] : List UInt8).length 0) ([] : List UInt8).length (bytesV [])) := Has.made 5 #[] (by decide)
      obtain ⟨_, ⟨hr0, _⟩, _⟩ := id hrow0
      obtain ⟨v8, w8, hrun, happ⟩ := run_append_bytes (wr.drew.drew.alloc (.cells #[] 5)) _ (.slice bp nk bc) [] cb hr0 (HBX.out _ (((Kept.refl [] wr).drewN 2).alloc _)) (by have := HCLEN.out; show 0 + cb.length ≤ 262144; omega)
      have hT0 := Has.appendRow0 hrow0 happ
      simp only [List.nil_append] at hT0
      rw [HCLEN.out] at hT0
      obtain ⟨vp8, vc8, hv8⟩ : ∃ p c, v8 = .slice p nk c := by
        obtain ⟨_, ⟨hr, _⟩, _⟩ := id hT0
        exact rowSlice hr
      subst hv8
      have HT0 := Lib.hid hT0
      have HRUN : Hid (∀ ty, (Builtin.append_ #[27, 27] ty #[.slice (some ⟨wr.heap.size, 0, none⟩) 0 0, .slice bp nk bc]).run Try.prog (wr.alloc (.cells #[] 5)).drew.drew = .ok (.slice vp8 nk vc8) w8) := Lib.hid hrun
      have m0a : (wr.alloc (.cells #[] 5)).cell? ⟨L.addr fi, 0, none⟩ = some (.slice bp n1 bc) := ((Kept.refl [] wr).alloc _).cell m0 (by simp)
      clear hrow0 hr0 hrun happ hT0
      obtain ⟨ss, hss⟩ : ∃ ss, nk - tt = ss := ⟨_, rfl⟩
      have q8 : (nk : Int) - (tt : Int) = (ss : Int) := by omega
      have q9 : IntKind.i64.wrap ((nk : Int) - (tt : Int)) = (ss : Int) := by rw [q8]; exact IntWalk.i64_in _ (by omega)
      have hsn : ss + tt = nk := by omega
      have HSS := Lib.hid hss
      clear hss
      go_wp2_with (at_builtin; refine wpList_append_run rfl (.tmp 86) (.tmp 92) 27 rfl _ _ rfl rfl HRUN.out ?_)
      obtain ⟨wB, hwB⟩ : ∃ x, x = wr := ⟨_, rfl⟩
      subst hwB
      clear HRUN m0a q0 q1 q2 q3 q5 q8 q9 hct hcl m0 m1 e0 e2 c2 hbc hkl2 hlen9
      go_loopg [14] tt (fun kk iv wz => ∃ m : Nat, m ≤ tt ∧ kk = tt - m ∧ iv = .int .i64 ((ss + m : Nat) : Int) ∧ Has [] wB.drew.drew wz (.row 5 1 (.slice vp8 nk vc8) nk (bytesV (upTo cb ss m))))
      case atStart => exact ⟨0, Nat.zero_le _, rfl, rfl, by rw [upTo_zero]; exact HT0.out⟩
      case round =>
        obtain ⟨m, hm, hkk, rfl, hT⟩ := hrel
        have HK3 := Lib.hid hkk
        clear hkk HT0
        by_cases hlt3 : m < tt
        · have d3 : (((ss + m : Nat) : Int) < (nk : Int)) ↔ True := by simp; omega
          have hmn : ss + m < cb.length := by rw [HCLEN.out]; omega
          obtain ⟨_, ⟨hrT, _⟩, _⟩ := id hT
          obtain ⟨gg, gc, hvv2, hnc8, _, _, hfz, hcl2⟩ := row_out hrT (by omega)
          obtain ⟨hvp, rfl⟩ : vp8 = some ⟨gg, 0, none⟩ ∧ vc8 = gc := by
            injection hvv2 with q1 q2 q3
            exact ⟨q1, q3⟩
          subst hvp
          have hcx : wr.cell? ⟨gg, ss + m, none⟩ = some (byteV (cb.getD (ss + m) 0)) := hcl2 _ _ (by
            unfold bytesV
            rw [List.getElem?_map, upTo_at hmn]
            rfl)
          have hfx := hfz (ss + m)
          have hTs := hT.setRow (ss + m) (byteV (cb.getD (ss + m) 0 ^^^ 255)) (by omega)
          rw [show (bytesV (upTo cb ss m)).set (ss + m) (byteV (cb.getD (ss + m) 0 ^^^ 255)) = bytesV (upTo cb ss (m + 1)) by
            rw [← upTo_succ hmn]; unfold bytesV; rw [List.map_set]] at hTs
          have HTs := Lib.hid hTs
          unfold byteV at hcx
          obtain ⟨bq, hbq⟩ : ∃ bq, ss + m = bq := ⟨_, rfl⟩
          rw [hbq] at hcx hfx d3 HTs
          have hbl : bq < nk := by omega
          have hbl2 : bq < vc8 := by omega
          have HBQ := Lib.hid hbq
          rw [hbq]
          generalize cb.getD bq 0 = bb at *
          clear hT hrT hvv2 hfz hcl2 hTs hmn hbq
          have HXB := Lib.hid (xor_byte bb)
          go_wp2_with fail
          go_roundg (tt - (m + 1))
          case measure => rw [HK3.out]; omega
          case rel => exact ⟨m + 1, by omega, rfl, by rw [← Nat.add_assoc, HBQ.out]; go_num, by rw [HXB.out]; exact HTs.out⟩
        · have d3 : (((ss + m : Nat) : Int) < (nk : Int)) ↔ False := by simp; omega
          obtain rfl : m = tt := by omega
          have htn : upTo cb ss m = torn cb m := by
            have := upTo_torn cb m (by rw [HCLEN.out]; omega)
            rw [HCLEN.out, HSS.out] at this
            exact this
          rw [htn] at hT
          -- the file
          have hbk := Has.madeBlk (w := wr) #[.slice vp8 nk vc8, .int .i64 nk] 90 (fileCells (.slice vp8 nk vc8) nk) 2 rfl (by
            intro i hi
            match i with
            | 0 | 1 => rfl
            | i + 2 => omega)
          have htl : (torn cb m).length = nk := by rw [torn_len, HCLEN.out]
          have hfile : Has [] wB.drew.drew (wr.alloc (.cells #[.slice vp8 nk vc8, .int .i64 nk] 90)) (fileRP wr.heap.size (.slice vp8 nk vc8) (X j)) := by
            rw [HXJ.out]
            unfold fileRP
            simp only [htl]
            exact (hT.beside hbk).swap
          have hRf := HR2.out.quiet hfile.keeps
          obtain ⟨_, p2, _⟩ := hRf.right
          obtain ⟨_, p3, _⟩ := p2.right
          obtain ⟨_, p4, _⟩ := p3.left
          obtain ⟨_, ⟨hrF, _⟩, _⟩ := p4.alloc (.cells #[.pointer (some ⟨wr.heap.size, 0, none⟩)] 91)
          obtain ⟨i0, hi0, he0⟩ := Option.map_eq_some_iff.1 info_ptr
          obtain ⟨hz0, hz1, hz2⟩ : i0.zero = some (.pointer none) ∧ i0.size = 1 ∧ i0.bytes = 8 := by simpa using he0
          obtain ⟨v5, w5, hrunF, happF⟩ := run_append_new (P := Try.prog) ((wr.alloc (.cells #[.slice vp8 nk vc8, .int .i64 nk] 90)).alloc (.cells #[.pointer (some ⟨wr.heap.size, 0, none⟩)] 91)) 78 78 91 i0 (.pointer none) 1 8 Try.underlying78 hi0 hz0 hz1 hz2 rfl (by decide) C.fv j (ptrsV C.addr j) hrF ⟨wr.heap.size + 1, 0, none⟩ 1 1 [.pointer (some ⟨wr.heap.size, 0, none⟩)] rfl (cell_made _ _ _ _ (by simp)) (by intro u hu; simp at hu; subst hu; rfl) (by simp only [maxLen]; omega) (by omega)
          obtain ⟨⟨g0, gf⟩, hC5⟩ := crr_file HR2.out hfile happF
          obtain ⟨fvp, fvn, fvc, hfv5⟩ : ∃ a b c, C.fv = .slice a b c := by
            rcases rowN_open hrF with ⟨e, _⟩ | ⟨g, c, e, _⟩
            · exact ⟨_, _, _, e⟩
            · exact ⟨_, _, _, e⟩
          obtain ⟨xp, xn, xc, rfl⟩ : ∃ a b c, v5 = .slice a b c := by
            rcases rowN_open happF.row with ⟨e, _⟩ | ⟨g, c, e, _⟩
            · exact ⟨_, _, _, e⟩
            · exact ⟨_, _, _, e⟩
          have k0 : wr.cell? ⟨rb2, 0, none⟩ = some C.fv := (crr_cell (HR2.out.quiet hT.keeps) 0 (by omega)).1
          rw [hfv5] at hrunF g0 k0
          have HRUNF : Hid (∀ ty, (Builtin.append_ #[78, 78] ty #[.slice fvp fvn fvc, .slice (some ⟨wr.heap.size + 1, 0, none⟩) 1 1]).run Try.prog ((wr.alloc (.cells #[.slice vp8 nk vc8, .int .i64 nk] 90)).alloc (.cells #[.pointer (some ⟨wr.heap.size, 0, none⟩)] 91)) = .ok (.slice xp xn xc) w5) := Lib.hid (fun _ => hrunF)
          have HC5 := Lib.hid hC5
          clear hT hbk htl hfile hRf p2 p3 p4 hrF hi0 he0 hz0 hz1 hz2 hrunF happF hC5 hfv5 htn
          go_wp2_with (at_builtin; refine wpList_append_run rfl (.tmp 114) (.tmp 119) 78 rfl _ _ rfl rfl HRUNF.out ?_)
          generalize (w5.setCell ⟨rb2, 0, none⟩ (.slice xp xn xc)) = W3 at *
          clear HRUNF g0 gf k0 c0 c1 cp
          -- its name
          have h3 := HC5.out.drewN 1
          change Has [] wA W3.drew _ at h3
          have hk3 := ((Kept.refl [] W3).drewN 1)
          change Kept [] W3 W3.drew at hk3
          obtain ⟨g', c', ev, _, c1, _⟩ := (HD.out.kept HC5.out.keeps (by simp)).cells HP.out
          rw [HN.out] at ev
          obtain ⟨e1, e2⟩ : (some ⟨g, 0, none⟩ : Option Addr) = some ⟨g', 0, none⟩ ∧ vc = c' := by injection ev with e1 _ e2; exact ⟨e1, e2⟩
          obtain rfl : g = g' := by injection e1 with e1; injection e1 with e1
          subst e2
          rw [HZ.out] at c1
          obtain ⟨_, p1, _⟩ := HC5.out.left
          have c2 : W3.cell? ⟨rb2, 1, none⟩ = some C.ov := (p1.blkAt (i := 1) (by omega)).1
          obtain ⟨_, p2, _⟩ := h3.right
          obtain ⟨_, p3, _⟩ := p2.left
          obtain ⟨_, ⟨hrN, _⟩, _⟩ := p3.alloc (.cells #[.string Z, .int .i64 (j : Nat)] 97)
          obtain ⟨i0, hi0, he0⟩ := Option.map_eq_some_iff.1 info_nm
          obtain ⟨hz0, hz1, hz2⟩ : i0.zero = some (.agg #[.string ⟨#[]⟩, .int .i64 0]) ∧ i0.size = 2 ∧ i0.bytes = 24 := by simpa using he0
          have hlt5 : ((numbered l).take j).length ≤ 64 := by rw [List.length_take]; omega
          obtain ⟨v6, w6, hrunN, happN⟩ := run_append_new (P := Try.prog) (W3.drew.alloc (.cells #[.string Z, .int .i64 (j : Nat)] 97)) 79 79 97 i0 (.agg #[.string ⟨#[]⟩, .int .i64 0]) 2 24 Try.underlying79 hi0 hz0 hz1 hz2 rfl (by decide) C.ov ((numbered l).take j).length (nmFlat ((numbered l).take j)) hrN ⟨W3.heap.size, 0, none⟩ 1 1 [.string Z, .int .i64 (j : Nat)] rfl (cell_made _ _ _ _ rfl) (by intro u hu; simp at hu; rcases hu with rfl | rfl <;> rfl) (by simp only [maxLen]; omega) (by omega)
          have hvals : nmVals (nmAt l j, j) = [.string Z, .int .i64 (j : Nat)] := by unfold nmVals; rw [HNAT.out, HZ.out]
          obtain ⟨⟨g1, gf1⟩, hC6⟩ := crr_name h3 (by have := HN.out; omega) (by rw [hvals]; exact happN)
          obtain ⟨ovp, ovn, ovc, hov6⟩ : ∃ a b c, C.ov = .slice a b c := by
            rcases rowN_open hrN with ⟨e, _⟩ | ⟨g, c, e, _⟩
            · exact ⟨_, _, _, e⟩
            · exact ⟨_, _, _, e⟩
          obtain ⟨yp, yn, yc, rfl⟩ : ∃ a b c, v6 = .slice a b c := by
            rcases rowN_open happN.row with ⟨e, _⟩ | ⟨g, c, e, _⟩
            · exact ⟨_, _, _, e⟩
            · exact ⟨_, _, _, e⟩
          rw [hov6] at hrunN g1 c2
          have HRUNN : Hid (∀ ty, (Builtin.append_ #[79, 79] ty #[.slice ovp ovn ovc, .slice (some ⟨W3.heap.size, 0, none⟩) 1 1]).run Try.prog (W3.alloc (.cells #[.string Z, .int .i64 (j : Nat)] 97)).drew = .ok (.slice yp yn yc) w6) := Lib.hid (fun _ => hrunN)
          have HC6 := Lib.hid hC6
          have hka := (Kept.refl [] W3).alloc (.cells #[.string Z, .int .i64 (j : Nat)] 97)
          have c1a : (W3.alloc (.cells #[.string Z, .int .i64 (j : Nat)] 97)).cell? ⟨g, j * 2, none⟩ = some (.string Z) := hka.cell c1 (by simp)
          have c2a : (W3.alloc (.cells #[.string Z, .int .i64 (j : Nat)] 97)).cell? ⟨rb2, 1, none⟩ = some (.slice ovp ovn ovc) := hka.cell c2 (by simp)
          clear h3 hk3 ev e1 p1 p2 p3 hrN hi0 he0 hz0 hz1 hz2 hlt5 hrunN happN hvals hC6 hov6 hka HC5
          go_region_law (refine step_append_run rfl (.tmp 127) (.tmp 135) 79 rfl _ _ rfl rfl HRUNN.out ?_)
          all_goals (
            clear HRUNN c1a c2a c1 c2
            go_wp2_with fail
            go_roundg (n - (j + 1))
            case measure => rw [HJK.out]; omega
            case rel => exact ⟨j + 1, ⟨.slice xp xn xc, .slice yp yn yc, _, _⟩, by omega, rfl, by go_num, HC6.out⟩)
    · have d1 : ((j : Int) < (n : Int)) ↔ False := by simp; omega
      obtain rfl : j = n := by omega
      obtain rfl : j = l.length := HN.out.symm
      have hR3 := crr_end hR (l.map fun p => (a.file p.2).left keep tear) (by simp) (fun i hi => by
        rw [← HX.out]
        simp only [List.getD_eq_getElem?_getD, List.getElem?_map, List.getElem?_eq_getElem hi, Option.map_some, Option.getD_some])
      have c1 : wr.cell? ⟨rb2, 1, none⟩ = some C.ov := (crr_cell hR 1 (by omega)).1
      obtain ⟨c3, f3⟩ : wr.cell? ⟨rb2, 3, none⟩ = some (.slice none 0 0) ∧ wr.frozen? ⟨rb2, 3, none⟩ = false := crr_cell hR 3 (by omega)
      obtain ⟨ovp, ovn, ovc, hov6⟩ : ∃ a b c, C.ov = .slice a b c := by
        obtain ⟨_, p2, _⟩ := hR.right
        obtain ⟨_, p3, _⟩ := p2.left
        rcases p3.dirAt with ⟨e, _⟩ | ⟨g, c, e, _⟩
        · exact ⟨_, _, _, e⟩
        · exact ⟨_, _, _, e⟩
      have e9 : a.crash keep dirs tear = ⟨l.map fun p => (a.file p.2).left keep tear, numbered l, numbered l, [], 0, -1, false⟩ := by
        refine crash_eq dirs ?_ keep tear
        have h9 : a.log.take dirs.toNat = a.log.take k := by
          rw [← HK.out, List.take_eq_take_min]
          congr 1
          omega
        rw [h9]
        exact HRL.out
      rw [← e9, hov6] at hR3
      rw [hov6] at c1
      have HRES := Lib.hid (((rf_shut HOF.out _ hR3).from HKE.out).from HK0.out)
      clear hR hR3 e9 hov6
      go_wp2_with fail
      go_ret
      exact ⟨_, rfl, HRES.out⟩
end Go.Proofs.Ytbankfdgoolbdaa
