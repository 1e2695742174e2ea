/- Delete, Rename walked. -/
import Derived.Test.YtbankfdgoolbdaaDkPut
namespace Go.Proofs.Ytbankfdgoolbdaa
open Go Go.RowKit Go.Lib
set_option linter.unusedVariables false
variable {o : List Nat} {w0 w w' w1 w2 w3 : World} {db mb : Nat} {a : ADk} {L : DLay} {l l' : Dir} {A : Part}

theorem Has.onto (h : Has o w w A) (k : Kept [] w w') : Has o w' w' A := by
  obtain ⟨fp, hA, hn, _⟩ := h
  exact ⟨fp, A.kept hA k (by simp), fun x hx => .inl ((hn x hx).resolve_right (by have := A.lt hA x hx; omega)), Kept.refl _ _⟩
theorem Has.from (h : Has o w1 w2 A) (k : Kept [] w w1) : Has o w w2 A := by
  obtain ⟨fp, hA, hn, k2⟩ := h
  exact ⟨fp, hA, fun x hx => (hn x hx).imp id fun h => Nat.le_trans k.size h, (k.mono (by simp)).trans k2 fun _ _ m => m⟩

theorem dkl_did (h : Has o w0 w (DkL db a L)) : Has o w0 (w.setCell ⟨db, 3, none⟩ (.int .i64 ((a.ops : Int) + 1))) (DkL db a.did L) := dkl_ops h (a.ops + 1)

theorem dk_len (ha : a.Ok) : a.now.length < maxLen := by
  have h1 := ha.now.len
  have : (64 : Nat) < maxLen := by decide
  omega

theorem made_box (w : World) (v : Value) (t : TypeId) : Has [] w (w.alloc (.cells #[v] t)) (.blk w.heap.size 1 t (fun _ => v)) :=
  Has.madeBlk #[v] t (fun _ => v) 1 rfl fun i hi => by
    obtain rfl : i = 0 := Nat.lt_one_iff.1 hi
    rfl

/-- change, its box beside. -/
theorem change_boxed {c : Chg} {b1 b2 : Nat} (h : Has o w w3 ((DkL db a L).sep (boxP L.addr b1 b2 c))) (hok : a.Ok) (hlen : a.now.length < maxLen) (hc : c.on a.now = some l') (hnm : c.named) :
    Calls Try.prog 33 #[ptr db, cloV b1 b2 c] w3 fun e w4 => e = .returned (.tuple #[]) ∧ ∃ L', L'.addr = L.addr ∧ L'.bv = L.bv ∧ BoxAt w4 L.addr b1 b2 c ∧ Has o w w4 (DkL db (a.change c) L') := by
  obtain ⟨o3, h3, s3, lt3, back3⟩ := h.left
  obtain ⟨o4, h4, _⟩ := h.right
  have h1 := hok.loglen
  have h2 := hok.ops
  refine (change_walk h3 (by omega) c b1 b2 hc hnm hlen (boxAt_of h4)).mono ?_
  rintro e w4 ⟨rfl, lv, h5⟩
  exact ⟨rfl, { L with lv := lv, b1 := fun j => if j = a.log.length then b1 else L.b1 j, b2 := fun j => if j = a.log.length then b2 else L.b2 j }, rfl, rfl, boxAt_of (back3 _ _ h5).right.choose_spec.1, dk_changed hc (back3 _ _ h5)⟩

/-- refused, at a disk beside something, the names in a new row. -/
theorem refused_beside {B : Part} (h : Has o w w1 ((Dk db a).sep B)) (there : Bool) (l : List ByteArray) (hl : l.length ≤ 2) (h0 : 0 < l.length) (t : TypeId) :
    Calls Try.prog 32 #[ptr db, .bool there, .slice (some ⟨w1.heap.size, 0, none⟩) l.length l.length] (w1.alloc (.cells (l.map Value.string).toArray t)) fun e w' =>
      e = .returned (.int .i64 (a.powered.bad there (l.map (·.data.toList)))) ∧ Has o w w' ((Dk db a.powered).sep B) := by
  obtain ⟨o1, h1, s1, lt1, back1⟩ := h.left
  have k : Kept [] w1 (w1.alloc (.cells (l.map Value.string).toArray t)) := (Kept.refl _ _).alloc _
  have hn : NamesAt (w1.alloc (.cells (l.map Value.string).toArray t)) w1.heap.size l := by
    intro i s hi
    have hb := Blk.made w1 (l.map Value.string).toArray t (fun i => ((l.map Value.string).toArray[i]?).getD (.bool false)) l.length (by simp) (fun i hi => by simp [hi])
    have hlt : i < l.length := (List.getElem?_eq_some_iff.1 hi).1
    have := hb.cell (i := i) hlt
    rw [this]
    simp [hi]
  refine (refused_walk (h1.onto k) there w1.heap.size l hn hl h0 (fun m => by have := lt1 _ m; omega)).mono ?_
  rintro e w' ⟨rfl, h'⟩
  exact ⟨rfl, back1 _ _ (h'.from k)⟩

set_option maxHeartbeats 1000000 in
set_option maxRecDepth 100000 in
theorem delete_walk (h : Has o w w (Dk db a)) (x : ByteArray) :
    Calls Try.prog 13 #[ptr db, .string x] w fun e w' => e = .returned (.int .i64 (a.delete x.data.toList).1) ∧ Has o w w' (Dk db (a.delete x.data.toList).2) := by
  have hbox := made_box w (.string x) 9
  have HR := Lib.hid (refused_beside (h.beside hbox) true [x] (by simp) (by simp) 9)
  have HOK := Lib.hid (dk_open h).1
  have hsz : (w.alloc (.cells #[.string x] 9)).heap.size = w.heap.size + 1 := by simp
  rw [hsz] at HR
  clear h hbox hsz
  unfold ptr
  go_enter Try.func13, Try.ntmps13
  go_wp2_with fail
  refine HR.out.mono ?_
  rintro e w3 ⟨rfl, h3⟩
  clear HR
  by_cases hbad : a.powered.bad true [x.data.toList] = 0
  · have HE : Hid (a.delete x.data.toList = (0, (a.powered.change (.del x.data.toList)).did)) := Lib.hid (by unfold ADk.delete; simp only [hbad]; rfl)
    obtain ⟨_, hnm, _, hops⟩ := bad_off hbad
    simp only [List.all_cons, List.all_nil, Bool.and_true] at hnm
    obtain ⟨o3, h4, s4, lt4, b4⟩ := h3.left
    obtain ⟨hok, L, hL⟩ := dk_open h4
    have h5 : Has o w w3 ((DkL db a.powered L).sep (boxP L.addr w.heap.size 0 (.del x.data.toList))) := by
      have := b4 _ _ hL
      rw [← nmV_of x] at this
      exact this
    have hc := change_boxed h5 hok (dk_len hok) rfl hnm
    have HC := Lib.hid (show Calls Try.prog 33 #[.pointer (some ⟨db, 0, none⟩), .func (.func 34) #[] #[.pointer (some ⟨w.heap.size, 0, none⟩)]] w3 _ from hc)
    have HOK2 := Lib.hid (a.delete_ok HOK.out x.data.toList)
    have hb0 : ((0 : Int) == 0) = true := rfl
    simp only [List.map_cons, List.map_nil]
    rw [hbad]
    have HOP := Lib.hid hops
    clear h3 h4 b4 hL h5 hc hbad hops hnm
    go_wp2_with fail
    refine HC.out.mono ?_
    rintro e w4 ⟨rfl, L', _, _, _, h6⟩
    obtain ⟨c3, f3⟩ := dkl_cell h6 3 (by omega)
    replace c3 : w4.cell? ⟨db, 3, none⟩ = some (.int .i64 a.powered.ops) := c3
    have HD := Lib.hid (show Has o w (w4.setCell ⟨db, 3, none⟩ (.int .i64 ((a.powered.ops : Int) + 1))) (DkL db (a.powered.change (.del x.data.toList)).did L') from dkl_did h6)
    have hops := HOP.out
    generalize a.powered.ops = n at *
    clear h6
    go_wp2_with fail
    go_ret
    rw [HE.out] at HOK2 ⊢
    exact ⟨rfl, dk_shut HOK2.out L' HD.out⟩
  · have HE : Hid (a.delete x.data.toList = (a.powered.bad true [x.data.toList], a.powered)) := Lib.hid (by unfold ADk.delete; simp only [if_pos hbad])
    have hb0 : (a.powered.bad true [x.data.toList] == 0) = false := by simpa using hbad
    have hb1 : (a.powered.bad true [x.data.toList] = 0) ↔ False := by simpa using hbad
    have H3 := Lib.hid h3.fst
    simp only [List.map_cons, List.map_nil]
    generalize a.powered.bad true [x.data.toList] = n at *
    clear h3 hbad
    go_wp2_with fail
    go_ret
    rw [HE.out]
    exact ⟨rfl, H3.out⟩

set_option maxHeartbeats 1000000 in
set_option maxRecDepth 100000 in
theorem rename_walk (h : Has o w w (Dk db a)) (x y : ByteArray) :
    Calls Try.prog 31 #[ptr db, .string x, .string y] w fun e w' => e = .returned (.int .i64 (a.rename x.data.toList y.data.toList).1) ∧ Has o w w' (Dk db (a.rename x.data.toList y.data.toList).2) := by
  have hbox := (made_box w (.string x) 9).beside (made_box (w.alloc (.cells #[.string x] 9)) (.string y) 9)
  have HR := Lib.hid (refused_beside (h.beside hbox) true [x, y] (by simp) (by simp) 9)
  have HOK := Lib.hid (dk_open h).1
  have hsz : ((w.alloc (.cells #[.string x] 9)).alloc (.cells #[.string y] 9)).heap.size = w.heap.size + 1 + 1 := by simp
  have hsz2 : (w.alloc (.cells #[.string x] 9)).heap.size = w.heap.size + 1 := by simp
  rw [hsz, hsz2] at HR
  clear h hbox hsz hsz2
  unfold ptr
  go_enter Try.func31, Try.ntmps31
  go_wp2_with fail
  refine HR.out.mono ?_
  rintro e w3 ⟨rfl, h3⟩
  clear HR
  by_cases hbad : a.powered.bad true [x.data.toList, y.data.toList] = 0
  · have HE : Hid (a.rename x.data.toList y.data.toList = (0, (a.powered.change (.ren x.data.toList y.data.toList)).did)) := Lib.hid (by unfold ADk.rename; simp only [hbad]; rfl)
    obtain ⟨_, hnm, hfound, hops⟩ := bad_off hbad
    simp only [List.all_cons, List.all_nil, Bool.and_true, Bool.and_eq_true] at hnm
    obtain ⟨fi, hfi⟩ := Option.isSome_iff_exists.1 (hfound rfl)
    simp only [List.headD_cons] at hfi
    obtain ⟨o3, h4, s4, lt4, b4⟩ := h3.left
    obtain ⟨hok, L, hL⟩ := dk_open h4
    have h5 : Has o w w3 ((DkL db a.powered L).sep (boxP L.addr w.heap.size (w.heap.size + 1) (.ren x.data.toList y.data.toList))) := by
      have := b4 _ _ hL
      rw [← nmV_of x, ← nmV_of y] at this
      exact this
    have hc := change_boxed h5 hok (dk_len hok) (l' := alPut (alDel a.powered.now x.data.toList) y.data.toList fi) (by simp only [Chg.on, hfi, Option.map_some]) hnm
    have HC := Lib.hid (show Calls Try.prog 33 #[.pointer (some ⟨db, 0, none⟩), .func (.func 52) #[] #[.pointer (some ⟨w.heap.size, 0, none⟩), .pointer (some ⟨w.heap.size + 1, 0, none⟩)]] w3 _ from hc)
    have HOK2 := Lib.hid (a.rename_ok HOK.out x.data.toList y.data.toList)
    have hb0 : ((0 : Int) == 0) = true := rfl
    simp only [List.map_cons, List.map_nil]
    rw [hbad]
    have HOP := Lib.hid hops
    clear h3 h4 b4 hL h5 hc hbad hops hnm hfi hfound
    go_wp2_with fail
    refine HC.out.mono ?_
    rintro e w4 ⟨rfl, L', _, _, _, h6⟩
    obtain ⟨c3, f3⟩ := dkl_cell h6 3 (by omega)
    replace c3 : w4.cell? ⟨db, 3, none⟩ = some (.int .i64 a.powered.ops) := c3
    have HD := Lib.hid (show Has o w (w4.setCell ⟨db, 3, none⟩ (.int .i64 ((a.powered.ops : Int) + 1))) (DkL db (a.powered.change (.ren x.data.toList y.data.toList)).did L') from dkl_did h6)
    have hops := HOP.out
    generalize a.powered.ops = n at *
    clear h6
    go_wp2_with fail
    go_ret
    rw [HE.out] at HOK2 ⊢
    exact ⟨rfl, dk_shut HOK2.out L' HD.out⟩
  · have HE : Hid (a.rename x.data.toList y.data.toList = (a.powered.bad true [x.data.toList, y.data.toList], a.powered)) := Lib.hid (by unfold ADk.rename; simp only [if_pos hbad])
    have hb0 : (a.powered.bad true [x.data.toList, y.data.toList] == 0) = false := by simpa using hbad
    have hb1 : (a.powered.bad true [x.data.toList, y.data.toList] = 0) ↔ False := by simpa using hbad
    have H3 := Lib.hid h3.fst
    simp only [List.map_cons, List.map_nil]
    generalize a.powered.bad true [x.data.toList, y.data.toList] = n at *
    clear h3 hbad
    go_wp2_with fail
    go_ret
    rw [HE.out]
    exact ⟨rfl, H3.out⟩

end Go.Proofs.Ytbankfdgoolbdaa
