/- SyncDir, Sync, Read walked. -/
import Derived.Test.YtbankfdgoolbdaaDkKeys
namespace Go.Proofs.Ytbankfdgoolbdaa
open Go Go.RowKit Go.Lib
set_option linter.unusedVariables false
variable {o : List Nat} {w0 w w' w1 : World} {db : Nat} {a : ADk} {L : DLay}

theorem bytesAt_row {v : Value} {b : List UInt8} (h : w.ownsRow 0 5 1 v b.length (bytesV b)) : BytesAt w v b := by
  rcases row_val h with ⟨rfl, h0⟩ | ⟨g, cap, rfl, h1, h2, h3, h4, h5⟩
  · exact ⟨none, 0, by rw [h0], by omega, fun _ => ⟨h0, rfl⟩, fun x hx => by cases hx⟩
  · refine ⟨_, cap, rfl, by omega, (fun e => by cases e), fun x hx => ?_⟩
    cases hx
    exact ⟨rfl, fun j u hj => by rw [addr0]; exact h5 j u hj⟩

/-- A file's cells. -/
theorem file_at {ad : Nat} {v : Value} {x : AFile} (h : Has o w0 w (fileP ad v x)) :
    w.cell? ⟨ad, 0, none⟩ = some v ∧ w.cell? ⟨ad, 1, none⟩ = some (.int .i64 x.sy) ∧ (∀ i, i < 2 → w.frozen? ⟨ad, i, none⟩ = false) ∧ BytesAt w v x.b ∧ (∃ p c, v = .slice p x.b.length c) ∧
      w.ownsRow 0 5 1 v x.b.length (bytesV x.b) := by
  obtain ⟨o1, h1, _⟩ := h.left
  obtain ⟨o2, ⟨_, ⟨h2, _⟩, _⟩, _⟩ := h.right
  have hb := bytesAt_row h2
  obtain ⟨p, c, e, _⟩ := hb.out
  exact ⟨(h1.blkAt (i := 0) (by omega)).1, (h1.blkAt (i := 1) (by omega)).1, fun i hi => (h1.blkAt hi).2.1, hb, ⟨p, c, e⟩, h2⟩

theorem file_sync {ad : Nat} {v : Value} {x : AFile} (h : Has o w0 w (fileP ad v x)) (n : Nat) : Has o w0 (w.setCell ⟨ad, 1, none⟩ (.int .i64 n)) (fileP ad v ⟨x.b, n⟩) := by
  obtain ⟨o1, h1, _, _, b1⟩ := h.left
  have := b1 _ _ ((h1.blkAt (i := 1) (by omega)).2.2 (.int .i64 n))
  have e : upd (fileCells v x.sy) 1 (.int .i64 n) = fileCells v n := by
    funext i
    unfold upd
    match i with
    | 0 => rfl
    | 1 => rfl
    | i + 2 => rfl
  rw [e] at this
  exact this

theorem dkl_didN (h : Has o w0 w (DkL db a L)) {n : Nat} (hn : a.ops = n) : Has o w0 (w.setCell ⟨db, 3, none⟩ (.int .i64 ((n : Int) + 1))) (DkL db a.did L) := by
  rw [← hn]; exact dkl_did h

theorem has_emp (w : World) : Has [] w w Part.emp := ⟨[], rfl, by simp, Kept.refl _ _⟩

/-- The old names are other ones, in a new map; the log is empty. -/
theorem dk_synced (h : Has o w0 w (DkL db a L)) {ob : Nat} {w' : World} (hB : Has [] w w' (.map ob (dirV L.addr a.now))) :
    Has o w0 ((w'.setCell ⟨db, 1, none⟩ (.map (some ob))).setCell ⟨db, 2, none⟩ (.slice none 0 0)) (DkL db { a with old := a.now, log := [] } { L with ob := ob, lv := .slice none 0 0 }) := by
  obtain ⟨o1, h1, b1⟩ := h.dkOld
  have h2 := b1 _ _ _ hB.any
  obtain ⟨o2, h3, b2⟩ := h2.dkLog
  have h4 := b2 w' (.slice none 0 0) [] ⟨[], ⟨World.ownsRow_nil _ _ _ _, by simp [rowsOf, Value.ownBlock]⟩, by simp, Kept.refl _ _⟩
  obtain ⟨o3, h5, b3⟩ := h4.dkBoxes
  have h6 := b3 w' 0 (fun j => boxP L.addr (L.b1 j) (L.b2 j) (([] : List Chg).getD j (.del []))) (Has.nothing _).any
  have h7 := (h6.dkCell (i := 1) (by omega)).2.2 (.map (some ob))
  have h8 := (h7.dkCell (i := 2) (by omega)).2.2 (.slice none 0 0)
  have e : upd (upd (dkCells L a) 1 (.map (some ob))) 2 (.slice none 0 0) = dkCells { L with ob := ob, lv := .slice none 0 0 } { a with old := a.now, log := [] } := by
    funext i
    unfold upd
    match i with
    | 0 | 1 | 3 | 4 | 5 => rfl
    | 2 => rfl
    | i + 6 => rfl
  rw [e] at h8
  exact h8

set_option maxHeartbeats 1000000 in
set_option maxRecDepth 100000 in
theorem syncDir_walk (h : Has o w w (Dk db a)) :
    Calls Try.prog 16 #[ptr db] w fun e w' => e = .returned (.int .i64 a.syncDir.1) ∧ Has o w w' (Dk db a.syncDir.2) := by
  have HR := Lib.hid (refused_none h)
  have HOK := Lib.hid (dk_open h).1
  clear h
  unfold ptr at *
  go_enter Try.func16, Try.ntmps16
  go_wp2_with fail
  refine HR.out.mono ?_
  rintro e w3 ⟨rfl, h3⟩
  clear HR
  by_cases hbad : a.powered.bad false [] = 0
  · have HE : Hid (a.syncDir = (0, ADk.did { a.powered with old := a.powered.now, log := [] })) := Lib.hid (by unfold ADk.syncDir; simp only [hbad]; rfl)
    have HOP := Lib.hid (bad_off hbad).2.2.2
    obtain ⟨hok, L, hL⟩ := dk_open h3
    have c0 : w3.cell? ⟨db, 0, none⟩ = some (.map (some L.mb)) := (dkl_cell hL 0 (by omega)).1
    have HC := Lib.hid (clone_walk (dkl_now hL))
    have H3 := Lib.hid hL
    have HOK2 := Lib.hid (a.syncDir_ok HOK.out)
    have hb0 : ((0 : Int) == 0) = true := rfl
    rw [hbad]
    clear h3 hL hbad
    go_wp2_with fail
    refine HC.out.mono ?_
    rintro e w4 ⟨rfl, h4⟩
    have h5 := dk_synced H3.out h4
    have hm := H3.out.quiet h4.keeps
    obtain ⟨c1, f1⟩ := dkl_cell hm 1 (by omega)
    obtain ⟨c2, f2⟩ := dkl_cell hm 2 (by omega)
    obtain ⟨c3, f3⟩ := dkl_cell hm 3 (by omega)
    have c3' : w4.cell? ⟨db, 3, none⟩ = some (.int .i64 a.powered.ops) := c3
    have HD := Lib.hid (show Has o w (((w4.setCell ⟨db, 1, none⟩ (.map (some w3.heap.size))).setCell ⟨db, 2, none⟩ (.slice none 0 0)).setCell ⟨db, 3, none⟩ (.int .i64 ((a.powered.ops : Int) + 1))) _ from dkl_didN h5 rfl)
    have hops := HOP.out
    generalize a.powered.ops = n at *
    clear h4 h5 hm c3
    go_wp2_with fail
    go_ret
    rw [HE.out] at HOK2 ⊢
    exact ⟨rfl, dk_shut HOK2.out _ HD.out⟩
  · have HE : Hid (a.syncDir = (a.powered.bad false [], a.powered)) := Lib.hid (by unfold ADk.syncDir; simp only [if_pos hbad])
    have hb0 : (a.powered.bad false [] == 0) = false := by simpa using hbad
    have hb1 : (a.powered.bad false [] = 0) ↔ False := by simpa using hbad
    have H3 := Lib.hid h3
    generalize a.powered.bad false [] = n at *
    clear h3 hbad
    go_wp2_with fail
    go_ret
    rw [HE.out]
    exact ⟨rfl, H3.out⟩

set_option maxHeartbeats 1000000 in
set_option maxRecDepth 100000 in
theorem sync_walk (h : Has o w w (Dk db a)) (x : ByteArray) :
    Calls Try.prog 15 #[ptr db, .string x] w fun e w' => e = .returned (.int .i64 (a.sync x.data.toList).1) ∧ Has o w w' (Dk db (a.sync x.data.toList).2) := by
  have HR := Lib.hid (refused_beside (h.beside (has_emp w)) true [x] (by simp) (by simp) 9)
  have HOK := Lib.hid (dk_open h).1
  clear h
  unfold ptr at *
  go_enter Try.func15, Try.ntmps15
  go_wp2_with fail
  refine HR.out.mono ?_
  rintro e w3 ⟨rfl, h3⟩
  clear HR
  replace h3 := h3.fst
  by_cases hbad : a.powered.bad true [x.data.toList] = 0
  · obtain ⟨_, hnm, hfound, hops⟩ := bad_off hbad
    simp only [List.all_cons, List.all_nil, Bool.and_true] at hnm
    obtain ⟨fi, hfi⟩ := Option.isSome_iff_exists.1 (hfound rfl)
    simp only [List.headD_cons] at hfi
    have HE : Hid (a.sync x.data.toList = (0, ADk.did { a.powered with fs := a.powered.fs.set fi ⟨(a.powered.file fi).b, (a.powered.file fi).b.length⟩ })) := Lib.hid (by unfold ADk.sync; simp only [hbad, hfi]; rfl)
    obtain ⟨hok, L, hL⟩ := dk_open h3
    have hlt : fi < a.powered.fs.length := hok.now.ids _ (alFind_mem hfi)
    have hsz := nm_le hnm
    change x.size ≤ maxLen at hsz
    have hlk := (dkl_now hL).look x hsz
    rw [dirV_find, hfi] at hlk
    simp only [Option.map_some, Option.getD_some, ptr] at hlk
    have c0 : w3.cell? ⟨db, 0, none⟩ = some (.map (some L.mb)) := (dkl_cell hL 0 (by omega)).1
    obtain ⟨o4, hF, back⟩ := dkl_file hL hlt
    obtain ⟨d0, d1, df, _, ⟨p, c, hv⟩, _⟩ := file_at hF
    rw [hv] at d0
    have df1 := df 1 (by omega)
    have hst := back _ _ _ (file_sync hF (a.powered.file fi).b.length)
    obtain ⟨n, hN⟩ : ∃ n, a.powered.ops = n := ⟨_, rfl⟩
    obtain ⟨c3, f3⟩ := dkl_cell hst 3 (by omega)
    replace c3 : (w3.setCell ⟨L.addr fi, 1, none⟩ (.int .i64 (a.powered.file fi).b.length)).cell? ⟨db, 3, none⟩ = some (.int .i64 n) := by rw [c3, ← hN]; rfl
    have HD := Lib.hid (show Has o w ((w3.setCell ⟨L.addr fi, 1, none⟩ (.int .i64 (a.powered.file fi).b.length)).setCell ⟨db, 3, none⟩ (.int .i64 ((n : Int) + 1))) _ from dkl_didN hst hN)
    have HOK2 := Lib.hid (a.sync_ok HOK.out x.data.toList)
    have hb0 : ((0 : Int) == 0) = true := rfl
    simp only [List.map_cons, List.map_nil]
    rw [hbad]
    rw [hN] at hops
    clear hN h3 hL hbad hfi hfound hnm hsz hst back hF hlt hok df
    generalize (a.powered.file fi).b.length = m at *
    go_wp2_with fail
    go_ret
    rw [HE.out] at HOK2 ⊢
    exact ⟨rfl, dk_shut HOK2.out _ HD.out⟩
  · have HE : Hid (a.sync x.data.toList = (a.powered.bad true [x.data.toList], a.powered)) := Lib.hid (by unfold ADk.sync; simp only [if_pos hbad])
    have hb0 : (a.powered.bad true [x.data.toList] == 0) = false := by simpa using hbad
    have hb1 : (a.powered.bad true [x.data.toList] = 0) ↔ False := by simpa using hbad
    have H3 := Lib.hid h3
    simp only [List.map_cons, List.map_nil]
    generalize a.powered.bad true [x.data.toList] = n at *
    clear h3 hbad
    go_wp2_with fail
    go_ret
    rw [HE.out]
    exact ⟨rfl, H3.out⟩

end Go.Proofs.Ytbankfdgoolbdaa
