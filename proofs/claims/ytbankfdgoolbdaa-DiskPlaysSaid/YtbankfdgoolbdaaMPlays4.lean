/- The names, rising: slices.Sorted(maps.Keys(m)); Names walked.
SyncDir, Sync, Read walked.
Read, Poke walked; what a nil disk answers.
Append walked.
For Crash, told plainly: rising lists, names done one by one, a torn tail. Nothing is claimed of a program here.
For Crash, in memory: a map that is ranged over, a part that takes another one's place. Nothing is claimed of a program here.
For Crash: the new disk while its files are made, one by one, in any order. Nothing is claimed of a program here. -/
import Derived.Test.YtbankfdgoolbdaaMPlays3
import Derived.Deep.Upon
namespace Go.Proofs.Ytbankfdgoolbdaa
open Go Go.RowKit Go.Lib Go.Shelf Go.Sort Go.Maps Go.Proofs
set_option linter.unusedVariables false
variable {o : List Nat} {w0 w w' : World} {db : Nat} {a : ADk}

theorem keys_walk (mb : Option Nat) (W : World) : CallsIn Fence.wide 5 Try.prog 39 #[.map mb] W fun e w' => e = .returned (.func (.func 56) #[] #[.pointer (some ⟨W.heap.size, 0, none⟩)]) ∧ w' = W.alloc (.cells #[.map mb] 60) :=
  AnyZ.keys_in sh_keys39 Fence.wide 5 trivial rfl mb W

set_option maxHeartbeats 1000000 in
theorem sorted_walk {H : Type} (b nn : Nat) (D0 : DataW H) (R : Value → Option (DataW H × List MemPlace)) (w : World) (hown : w.ownsMap Try.prog 9 R b nn D0) (hmax : Maps.size D0 ≤ maxLen) (hbytes : Maps.size D0 * 16 ≤ 140737488355328) :
    CallsIn Fence.wide 5 Try.prog 38 #[.func (.func 56) #[] #[.pointer (some ⟨w.heap.size, 0, none⟩)]] (w.alloc (.cells #[.map (some b)] 60)) fun e w' => ∃ (v : Value) (ss : List (List UInt8)), e = .returned v ∧ ss.Perm (strKeys D0) ∧
      w'.ownsRow (w.alloc (.cells #[.map (some b)] 60)).heap.size 9 1 v ss.length ((ss.mergeSort (fun x y => decide (x ≤ y))).map encStr) ∧ (v = .slice none 0 0 ↔ ss = []) ∧ Below (w.alloc (.cells #[.map (some b)] 60)).heap.size (w.alloc (.cells #[.map (some b)] 60)) w' := by
  have hbl := hown.lt
  have hseq : SeqGives Fence.wide 2 Try.prog 56 #[.pointer (some ⟨w.heap.size, 0, none⟩)] encStr (fun ss => ss.Perm (strKeys D0)) (Maps.size D0) (w.alloc (.cells #[.map (some b)] 60)) :=
    AnyZ.keys_gives (ρ := sh_keys39_ren) { sh_keys39 with } Fence.wide _ trivial rfl (by omega) w.heap.size b nn D0 _ (by simp) (by simp) (by
      obtain ⟨es, clock, hb, Ft, hs, hD⟩ := hown
      exact ⟨es, clock, (Below.heap_alloc _ _ b hbl).trans hb, Ft, hs, hD⟩)
  exact AnyZ.sorted_in sh_sorted38 Fence.wide 5 trivial trivial trivial trivial rfl (by omega) (sorts38 _) (enters_of Try.func55 (by kernel_rfl) rfl) 56 #[.pointer (some ⟨w.heap.size, 0, none⟩)] trivial (enters_of Try.func56 (by kernel_rfl) rfl) _ _ hmax hbytes _ hseq

/-- Rising names are sorted. -/
theorem le_of_before : ∀ {a b : Nm}, bytesBefore a b = true → a ≤ b
  | [], [], h => by simp [bytesBefore] at h
  | [], _ :: _, _ => List.nil_le _
  | _ :: _, [], h => by simp [bytesBefore] at h
  | x :: r, y :: s, h => by
    simp only [bytesBefore, Bool.or_eq_true, decide_eq_true_eq, Bool.and_eq_true, beq_iff_eq] at h
    rw [List.cons_le_cons_iff]
    rcases h with h | ⟨e, h⟩
    · exact .inl h
    · exact .inr ⟨e, le_of_before h⟩

theorem names_sorted {α : Type} {l : List (Nm × α)} (h : Rising l) {ss : List Nm} (hp : ss.Perm (l.map (·.1))) : ss.mergeSort (fun x y => decide (x ≤ y)) = l.map (·.1) := by
  have h1 : (l.map (·.1)).Pairwise (fun x y => decide (x ≤ y) = true) := by
    rw [List.pairwise_map]
    exact h.imp fun hb => by simpa using le_of_before hb
  have htr : ∀ (a b c : Nm), decide (a ≤ b) = true → decide (b ≤ c) = true → decide (a ≤ c) = true := fun a b c h1 h2 => by
    simp only [decide_eq_true_eq] at *
    exact List.le_trans h1 h2
  have hto : ∀ (a b : Nm), (decide (a ≤ b) || decide (b ≤ a)) = true := fun a b => by
    have := List.le_total a b
    simpa using this
  have h2 := List.pairwise_mergeSort (le := fun x y => decide (x ≤ y)) htr hto ss
  have hp2 : (ss.mergeSort (fun x y => decide (x ≤ y))).Perm (l.map (·.1)) := (List.mergeSort_perm _ _).trans hp
  refine hp2.eq_of_pairwise (fun a b _ _ h1 h2 => ?_) h2 h1
  simp only [decide_eq_true_eq] at h1 h2
  exact List.le_antisymm h1 h2

set_option maxHeartbeats 2000000 in
/-- Names. -/
theorem names_walk (h : Has o w0 w (Dk db a)) :
    Calls Try.prog 19 #[ptr db] w fun e w' => ∃ v, e = .returned v ∧ Has [] w w' (.row 9 1 v a.names.length (a.names.map nmV)) := by
  obtain ⟨ha, L, hL⟩ := dk_open h
  have c0 : w.cell? ⟨db, 0, none⟩ = some (.map (some L.mb)) := (dkl_cell hL 0 (by omega)).1
  have hM := dkl_now hL
  have hn := ha.now
  have hlen : Maps.size (dmap (dirV L.addr a.now)) = a.now.length := by rw [dmap_size, dirV_len]
  have hsm : a.now.length ≤ 64 := hn.len
  have hkeys : strKeys (dmap (dirV L.addr a.now)) = a.now.map (·.1) := by
    show ((dmapL (dirV L.addr a.now)).map fun p => strOf p.1) = _
    unfold dmapL dirV alMap
    rw [List.map_map, List.map_map]
    rfl
  have HS := Lib.hid (sorted_walk L.mb _ _ anyElem w hM (by rw [hlen]; have : (64 : Nat) ≤ maxLen := by decide
                                                            omega) (by rw [hlen]; omega))
  have HK := Lib.hid hkeys
  have HR := Lib.hid hn.rise
  clear hM hn hlen hsm hkeys h hL ha
  unfold ptr
  refine (callsIn_wide (n := 6)).1 ?_
  have hfK : Fence.wide.fn 39 := trivial
  have hfS : Fence.wide.fn 38 := trivial
  refine callsIn_of_wp Try.func19 rfl trivial ?_ rfl
  simp only [Try.ntmps19, List.size_toArray, List.length_cons, List.length_nil, Nat.reduceAdd, Nat.reduceSub, Array.replicate_succ, Array.replicate_zero, List.push_toArray, List.append_toArray, List.nil_append, List.cons_append]
  gi_wp2_with (first
    | (gi_at_call 39; refine (keys_walk _ _).mono ?_; rintro e w' ⟨rfl, rfl⟩)
    | (gi_at_call 38; refine HS.out.mono ?_; rintro e w' ⟨v, ss, rfl, hS, hrow, _, hb⟩))
  go_ret
  have e1 := names_sorted HR.out (ss := ss) (HK.out ▸ hS)
  have e2 : ss.length = a.names.length := by rw [(hS.length_eq), HK.out]; rfl
  rw [e1, e2] at hrow
  have kb : Kept [] w w' := ((Kept.refl [] w).alloc _).tr (.of_below hb)
  exact ⟨v, rfl, has_row (ownsRow_base_a hrow (by simp)) kb⟩

theorem names_nil (w : World) : Calls Try.prog 19 #[.pointer none] w fun e w' => e = .returned (.slice none 0 0) ∧ Kept [] w w' := by
  go_enter Try.func19, Try.ntmps19
  go_wp2_with fail
  go_ret
  exact ⟨rfl, Kept.refl _ _⟩

end Go.Proofs.Ytbankfdgoolbdaa
namespace Go.Proofs.Ytbankfdgoolbdaa
open Go Go.RowKit Go.Lib
set_option linter.unusedVariables false
variable {o : List Nat} {w0 w w' w1 : World} {db : Nat} {a : ADk} {L : DLay}

theorem bytesAt_row {v : Value} {b : List UInt8} (h : w.ownsRow 0 5 1 v b.length (bytesV b)) : BytesAt w v b := by
  rcases row_val h with ⟨rfl, h0⟩ | ⟨g, cap, rfl, h1, h2, h3, h4, h5⟩
  · exact ⟨none, 0, by rw [h0], by omega, fun _ => ⟨h0, rfl⟩, fun x hx => by cases hx⟩
  · refine ⟨_, cap, rfl, by omega, (fun e => by cases e), fun x hx => ?_⟩
    cases hx
    exact ⟨rfl, fun j u hj => by rw [addr0]; exact h5 j u hj⟩

/-- A file's cells. -/
theorem file_at {ad : Nat} {v : Value} {x : AFile} (h : Has o w0 w (fileP ad v x)) :
    w.cell? ⟨ad, 0, none⟩ = some v ∧ w.cell? ⟨ad, 1, none⟩ = some (.int .i64 x.sy) ∧ (∀ i, i < 2 → w.frozen? ⟨ad, i, none⟩ = false) ∧ BytesAt w v x.b ∧ (∃ p c, v = .slice p x.b.length c) ∧
      w.ownsRow 0 5 1 v x.b.length (bytesV x.b) := by
  obtain ⟨o1, h1, _⟩ := h.left
  obtain ⟨o2, ⟨_, ⟨h2, _⟩, _⟩, _⟩ := h.right
  have hb := bytesAt_row h2
  obtain ⟨p, c, e, _⟩ := hb.out
  exact ⟨(h1.blkAt (i := 0) (by omega)).1, (h1.blkAt (i := 1) (by omega)).1, fun i hi => (h1.blkAt hi).2.1, hb, ⟨p, c, e⟩, h2⟩

theorem file_sync {ad : Nat} {v : Value} {x : AFile} (h : Has o w0 w (fileP ad v x)) (n : Nat) : Has o w0 (w.setCell ⟨ad, 1, none⟩ (.int .i64 n)) (fileP ad v ⟨x.b, n⟩) := by
  obtain ⟨o1, h1, _, _, b1⟩ := h.left
  have := b1 _ _ ((h1.blkAt (i := 1) (by omega)).2.2 (.int .i64 n))
  have e : upd (fileCells v x.sy) 1 (.int .i64 n) = fileCells v n := by
    funext i
    unfold upd
    match i with
    | 0 => rfl
    | 1 => rfl
    | i + 2 => rfl
  rw [e] at this
  exact this

theorem dkl_didN (h : Has o w0 w (DkL db a L)) {n : Nat} (hn : a.ops = n) : Has o w0 (w.setCell ⟨db, 3, none⟩ (.int .i64 ((n : Int) + 1))) (DkL db a.did L) := by
  rw [← hn]; exact dkl_did h

theorem has_emp (w : World) : Has [] w w Part.emp := ⟨[], rfl, by simp, Kept.refl _ _⟩

/-- The old names are other ones, in a new map; the log is empty. -/
theorem dk_synced (h : Has o w0 w (DkL db a L)) {ob : Nat} {w' : World} (hB : Has [] w w' (.map ob (dirV L.addr a.now))) :
    Has o w0 ((w'.setCell ⟨db, 1, none⟩ (.map (some ob))).setCell ⟨db, 2, none⟩ (.slice none 0 0)) (DkL db { a with old := a.now, log := [] } { L with ob := ob, lv := .slice none 0 0 }) := by
  obtain ⟨o1, h1, b1⟩ := h.dkOld
  have h2 := b1 _ _ _ hB.any
  obtain ⟨o2, h3, b2⟩ := h2.dkLog
  have h4 := b2 w' (.slice none 0 0) [] ⟨[], ⟨World.ownsRow_nil _ _ _ _, by simp [rowsOf, Value.ownBlock]⟩, by simp, Kept.refl _ _⟩
  obtain ⟨o3, h5, b3⟩ := h4.dkBoxes
  have h6 := b3 w' 0 (fun j => boxP L.addr (L.b1 j) (L.b2 j) (([] : List Chg).getD j (.del []))) (Has.nothing _).any
  have h7 := (h6.dkCell (i := 1) (by omega)).2.2 (.map (some ob))
  have h8 := (h7.dkCell (i := 2) (by omega)).2.2 (.slice none 0 0)
  have e : upd (upd (dkCells L a) 1 (.map (some ob))) 2 (.slice none 0 0) = dkCells { L with ob := ob, lv := .slice none 0 0 } { a with old := a.now, log := [] } := by
    funext i
    unfold upd
    match i with
    | 0 | 1 | 3 | 4 | 5 => rfl
    | 2 => rfl
    | i + 6 => rfl
  rw [e] at h8
  exact h8

set_option maxHeartbeats 1000000 in
set_option maxRecDepth 100000 in
theorem syncDir_walk (h : Has o w w (Dk db a)) :
    Calls Try.prog 16 #[ptr db] w fun e w' => e = .returned (.int .i64 a.syncDir.1) ∧ Has o w w' (Dk db a.syncDir.2) := by
  have HR := Lib.hid (refused_none h)
  have HOK := Lib.hid (dk_open h).1
  clear h
  unfold ptr at *
  go_enter Try.func16, Try.ntmps16
  go_wp2_with fail
  refine HR.out.mono ?_
  rintro e w3 ⟨rfl, h3⟩
  clear HR
  by_cases hbad : a.powered.bad false [] = 0
  · have HE : Hid (a.syncDir = (0, ADk.did { a.powered with old := a.powered.now, log := [] })) := Lib.hid (by unfold ADk.syncDir; simp only [hbad]; rfl)
    have HOP := Lib.hid (bad_off hbad).2.2.2
    obtain ⟨hok, L, hL⟩ := dk_open h3
    have c0 : w3.cell? ⟨db, 0, none⟩ = some (.map (some L.mb)) := (dkl_cell hL 0 (by omega)).1
    have HC := Lib.hid (clone_walk (dkl_now hL))
    have H3 := Lib.hid hL
    have HOK2 := Lib.hid (a.syncDir_ok HOK.out)
    have hb0 : ((0 : Int) == 0) = true := rfl
    rw [hbad]
    clear h3 hL hbad
    go_wp2_with fail
    refine HC.out.mono ?_
    rintro e w4 ⟨rfl, h4⟩
    have h5 := dk_synced H3.out h4
    have hm := H3.out.quiet h4.keeps
    obtain ⟨c1, f1⟩ := dkl_cell hm 1 (by omega)
    obtain ⟨c2, f2⟩ := dkl_cell hm 2 (by omega)
    obtain ⟨c3, f3⟩ := dkl_cell hm 3 (by omega)
    have c3' : w4.cell? ⟨db, 3, none⟩ = some (.int .i64 a.powered.ops) := c3
    have HD := Lib.hid (show Has o w (((w4.setCell ⟨db, 1, none⟩ (.map (some w3.heap.size))).setCell ⟨db, 2, none⟩ (.slice none 0 0)).setCell ⟨db, 3, none⟩ (.int .i64 ((a.powered.ops : Int) + 1))) _ from dkl_didN h5 rfl)
    have hops := HOP.out
    generalize a.powered.ops = n at *
    clear h4 h5 hm c3
    go_wp2_with fail
    go_ret
    rw [HE.out] at HOK2 ⊢
    exact ⟨rfl, dk_shut HOK2.out _ HD.out⟩
  · have HE : Hid (a.syncDir = (a.powered.bad false [], a.powered)) := Lib.hid (by unfold ADk.syncDir; simp only [if_pos hbad])
    have hb0 : (a.powered.bad false [] == 0) = false := by simpa using hbad
    have hb1 : (a.powered.bad false [] = 0) ↔ False := by simpa using hbad
    have H3 := Lib.hid h3
    generalize a.powered.bad false [] = n at *
    clear h3 hbad
    go_wp2_with fail
    go_ret
    rw [HE.out]
    exact ⟨rfl, H3.out⟩

set_option maxHeartbeats 1000000 in
set_option maxRecDepth 100000 in
theorem sync_walk (h : Has o w w (Dk db a)) (x : ByteArray) :
    Calls Try.prog 15 #[ptr db, .string x] w fun e w' => e = .returned (.int .i64 (a.sync x.data.toList).1) ∧ Has o w w' (Dk db (a.sync x.data.toList).2) := by
  have HR := Lib.hid (refused_beside (h.beside (has_emp w)) true [x] (by simp) (by simp) 9)
  have HOK := Lib.hid (dk_open h).1
  clear h
  unfold ptr at *
  go_enter Try.func15, Try.ntmps15
  go_wp2_with fail
  refine HR.out.mono ?_
  rintro e w3 ⟨rfl, h3⟩
  clear HR
  replace h3 := h3.fst
  by_cases hbad : a.powered.bad true [x.data.toList] = 0
  · obtain ⟨_, hnm, hfound, hops⟩ := bad_off hbad
    simp only [List.all_cons, List.all_nil, Bool.and_true] at hnm
    obtain ⟨fi, hfi⟩ := Option.isSome_iff_exists.1 (hfound rfl)
    simp only [List.headD_cons] at hfi
    have HE : Hid (a.sync x.data.toList = (0, ADk.did { a.powered with fs := a.powered.fs.set fi ⟨(a.powered.file fi).b, (a.powered.file fi).b.length⟩ })) := Lib.hid (by unfold ADk.sync; simp only [hbad, hfi]; rfl)
    obtain ⟨hok, L, hL⟩ := dk_open h3
    have hlt : fi < a.powered.fs.length := hok.now.ids _ (alFind_mem hfi)
    have hsz := nm_le hnm
    change x.size ≤ maxLen at hsz
    have hlk := (dkl_now hL).look x hsz
    rw [dirV_find, hfi] at hlk
    simp only [Option.map_some, Option.getD_some, ptr] at hlk
    have c0 : w3.cell? ⟨db, 0, none⟩ = some (.map (some L.mb)) := (dkl_cell hL 0 (by omega)).1
    obtain ⟨o4, hF, back⟩ := dkl_file hL hlt
    obtain ⟨d0, d1, df, _, ⟨p, c, hv⟩, _⟩ := file_at hF
    rw [hv] at d0
    have df1 := df 1 (by omega)
    have hst := back _ _ _ (file_sync hF (a.powered.file fi).b.length)
    obtain ⟨n, hN⟩ : ∃ n, a.powered.ops = n := ⟨_, rfl⟩
    obtain ⟨c3, f3⟩ := dkl_cell hst 3 (by omega)
    replace c3 : (w3.setCell ⟨L.addr fi, 1, none⟩ (.int .i64 (a.powered.file fi).b.length)).cell? ⟨db, 3, none⟩ = some (.int .i64 n) := by rw [c3, ← hN]; rfl
    have HD := Lib.hid (show Has o w ((w3.setCell ⟨L.addr fi, 1, none⟩ (.int .i64 (a.powered.file fi).b.length)).setCell ⟨db, 3, none⟩ (.int .i64 ((n : Int) + 1))) _ from dkl_didN hst hN)
    have HOK2 := Lib.hid (a.sync_ok HOK.out x.data.toList)
    have hb0 : ((0 : Int) == 0) = true := rfl
    simp only [List.map_cons, List.map_nil]
    rw [hbad]
    rw [hN] at hops
    clear hN h3 hL hbad hfi hfound hnm hsz hst back hF hlt hok df
    generalize (a.powered.file fi).b.length = m at *
    go_wp2_with fail
    go_ret
    rw [HE.out] at HOK2 ⊢
    exact ⟨rfl, dk_shut HOK2.out _ HD.out⟩
  · have HE : Hid (a.sync x.data.toList = (a.powered.bad true [x.data.toList], a.powered)) := Lib.hid (by unfold ADk.sync; simp only [if_pos hbad])
    have hb0 : (a.powered.bad true [x.data.toList] == 0) = false := by simpa using hbad
    have hb1 : (a.powered.bad true [x.data.toList] = 0) ↔ False := by simpa using hbad
    have H3 := Lib.hid h3
    simp only [List.map_cons, List.map_nil]
    generalize a.powered.bad true [x.data.toList] = n at *
    clear h3 hbad
    go_wp2_with fail
    go_ret
    rw [HE.out]
    exact ⟨rfl, H3.out⟩

end Go.Proofs.Ytbankfdgoolbdaa
namespace Go.Proofs.Ytbankfdgoolbdaa
open Go Go.RowKit Go.Lib
set_option linter.unusedVariables false
variable {o : List Nat} {w0 w w' w1 : World} {db : Nat} {a : ADk} {L : DLay}

theorem row_none (w : World) : Has [] w w (.row 5 1 (.slice none 0 0) ([] : List UInt8).length (bytesV [])) := ⟨[], ⟨World.ownsRow_nil _ _ _ _, by simp [rowsOf, Value.ownBlock]⟩, by simp, Kept.refl _ _⟩

set_option maxHeartbeats 1000000 in
set_option maxRecDepth 100000 in
theorem read_walk (h : Has o w0 w (Dk db a)) (x : ByteArray) :
    Calls Try.prog 18 #[ptr db, .string x] w fun e w' => ∃ v, e = .returned (.tuple #[v, .int .i64 (a.read x.data.toList).2]) ∧ Has [] w w' (.row 5 1 v (a.read x.data.toList).1.length (bytesV (a.read x.data.toList).1)) := by
  obtain ⟨ha, L, hL⟩ := dk_open h
  have c5 : w.cell? ⟨db, 5, none⟩ = some (.bool a.off) := (dkl_cell hL 5 (by omega)).1
  have c0 : w.cell? ⟨db, 0, none⟩ = some (.map (some L.mb)) := (dkl_cell hL 0 (by omega)).1
  cases hoff : a.off with
  | true =>
    rw [show a.read x.data.toList = ([], 24) by unfold ADk.read; rw [hoff]; rfl]
    rw [hoff] at c5
    clear hL h ha hoff
    unfold ptr
    go_enter Try.func18, Try.ntmps18
    go_wp2_with fail
    go_ret2
    exact ⟨_, rfl, row_none _⟩
  | false =>
    rw [hoff] at c5
    have HIN := Lib.hid (isName_walk x w)
    cases hnm : isNm x.data.toList with
    | false =>
      rw [show a.read x.data.toList = ([], 20) by unfold ADk.read; rw [hoff, hnm]; rfl]
      rw [hnm] at HIN
      clear hL h ha hoff hnm
      unfold ptr
      go_enter Try.func18, Try.ntmps18
      go_wp2_with fail
      refine HIN.out.mono ?_
      rintro e w2 ⟨rfl, k2⟩
      have K2 := Lib.hid k2
      clear k2
      go_wp2_with fail
      go_ret2
      exact ⟨_, rfl, (row_none _).from K2.out⟩
    | true =>
      rw [hnm] at HIN
      have hsz := nm_le hnm
      change x.size ≤ maxLen at hsz
      have HL := Lib.hid hL
      have HSZ := Lib.hid hsz
      cases hf : alFind a.now x.data.toList with
      | none =>
        rw [show a.read x.data.toList = ([], 21) by unfold ADk.read; rw [hoff, hnm, hf]; rfl]
        have HF := Lib.hid hf
        clear hL h ha hoff hnm hsz hf c0
        unfold ptr
        go_enter Try.func18, Try.ntmps18
        go_wp2_with fail
        refine HIN.out.mono ?_
        rintro e w2 ⟨rfl, k2⟩
        have hL2 := HL.out.quiet k2
        have c0 : w2.cell? ⟨db, 0, none⟩ = some (.map (some L.mb)) := (dkl_cell hL2 0 (by omega)).1
        have hlk := (dkl_now hL2).look x HSZ.out
        rw [dirV_find, HF.out] at hlk
        simp only [Option.map_none, Option.getD_none] at hlk
        have K2 := Lib.hid k2
        clear k2 hL2
        go_wp2_with fail
        go_ret2
        exact ⟨_, rfl, (row_none _).from K2.out⟩
      | some fi =>
        rw [show a.read x.data.toList = ((a.file fi).b, 0) by unfold ADk.read; rw [hoff, hnm, hf]; rfl]
        have HF := Lib.hid hf
        have HLT := Lib.hid (ha.now.ids _ (alFind_mem hf))
        have HBL := Lib.hid (a.file_ok ha fi).1
        clear hL h ha hoff hnm hsz hf c0
        unfold ptr
        go_enter Try.func18, Try.ntmps18
        go_wp2_with fail
        refine HIN.out.mono ?_
        rintro e w2 ⟨rfl, k2⟩
        have hL2 := HL.out.quiet k2
        have c0 : w2.cell? ⟨db, 0, none⟩ = some (.map (some L.mb)) := (dkl_cell hL2 0 (by omega)).1
        have hlk := (dkl_now hL2).look x HSZ.out
        rw [dirV_find, HF.out] at hlk
        simp only [Option.map_some, Option.getD_some, ptr] at hlk
        obtain ⟨o4, hF, _⟩ := dkl_file hL2 HLT.out
        obtain ⟨d0, _, _, hbt, ⟨p, c, hv⟩, _⟩ := file_at hF
        have HC := Lib.hid (bytes_clone hbt (by have := HBL.out; omega))
        rw [hv] at d0 HC
        have K2 := Lib.hid k2
        clear k2 hL2 hF hbt hv
        go_wp2_with fail
        refine HC.out.mono ?_
        rintro e w3 ⟨v', rfl, h3⟩
        have H3 := Lib.hid (h3.from K2.out)
        clear h3
        go_wp2_with fail
        go_ret2
        exact ⟨_, rfl, H3.out⟩

theorem file_put {ad : Nat} {x : AFile} {g cap : Nat} (h : Has o w0 w (fileP ad (.slice (some ⟨g, 0, none⟩) x.b.length cap) x)) (k : Nat) (hk : k < x.b.length) (c : UInt8) :
    Has o w0 (w.setCell ⟨g, k, none⟩ (byteV c)) (fileP ad (.slice (some ⟨g, 0, none⟩) x.b.length cap) ⟨x.b.set k c, x.sy⟩) := by
  obtain ⟨o1, h1, _, _, b1⟩ := h.right
  have := b1 _ _ (h1.setRow k (byteV c) hk)
  have e : (bytesV x.b).set k (byteV c) = bytesV (x.b.set k c) := by unfold bytesV; rw [List.map_set]
  rw [e] at this
  unfold fileP
  rw [show (x.b.set k c).length = x.b.length by simp]
  exact this

set_option maxHeartbeats 2000000 in
set_option maxRecDepth 100000 in
theorem poke_walk (h : Has o w w (Dk db a)) (x : ByteArray) (k : Int) (c : UInt8) :
    Calls Try.prog 47 #[ptr db, .string x, .int .i64 k, byteV c] w fun e w' => e = .returned (.int .i64 (a.poke x.data.toList k c).1) ∧ Has o w w' (Dk db (a.poke x.data.toList k c).2) := by
  obtain ⟨ha, L, hL⟩ := dk_open h
  have HIN := Lib.hid (isName_walk x w)
  have HX := Lib.hid h
  cases hnm : isNm x.data.toList with
  | false =>
    rw [show a.poke x.data.toList k c = (20, a) by unfold ADk.poke; rw [hnm]; rfl]
    rw [hnm] at HIN
    clear hL h ha hnm
    unfold ptr byteV
    go_enter Try.func47, Try.ntmps47
    go_wp2_with fail
    refine HIN.out.mono ?_
    rintro e w2 ⟨rfl, k2⟩
    have K2 := Lib.hid k2
    clear k2
    go_wp2_with fail
    go_ret
    exact ⟨rfl, HX.out.quiet K2.out⟩
  | true =>
    rw [hnm] at HIN
    have hsz := nm_le hnm
    change x.size ≤ maxLen at hsz
    have HL := Lib.hid hL
    have HSZ := Lib.hid hsz
    cases hf : alFind a.now x.data.toList with
    | none =>
      rw [show a.poke x.data.toList k c = (21, a) by unfold ADk.poke; rw [hnm, hf]; rfl]
      have HF := Lib.hid hf
      clear hL h ha hnm hsz hf
      unfold ptr byteV
      go_enter Try.func47, Try.ntmps47
      go_wp2_with fail
      refine HIN.out.mono ?_
      rintro e w2 ⟨rfl, k2⟩
      have hL2 := HL.out.quiet k2
      have c0 : w2.cell? ⟨db, 0, none⟩ = some (.map (some L.mb)) := (dkl_cell hL2 0 (by omega)).1
      have hlk := (dkl_now hL2).look x HSZ.out
      rw [dirV_find, HF.out] at hlk
      simp only [Option.map_none, Option.getD_none] at hlk
      have K2 := Lib.hid k2
      clear k2 hL2
      go_wp2_with fail
      go_ret
      exact ⟨rfl, HX.out.quiet K2.out⟩
    | some fi =>
      have HF := Lib.hid hf
      have HLT := Lib.hid (ha.now.ids _ (alFind_mem hf))
      have HP : Hid (a.poke x.data.toList k c = if k < 0 ∨ ((a.file fi).b.length : Int) ≤ k then (2, a) else (0, { a with fs := a.fs.set fi ⟨(a.file fi).b.set k.toNat c, (a.file fi).sy⟩ })) := Lib.hid (by unfold ADk.poke; rw [hnm, hf]; rfl)
      have HOK2 := Lib.hid (a.poke_ok ha x.data.toList k c)
      clear hL h ha hnm hsz hf
      unfold ptr
      by_cases hk0 : k < 0
      · rw [HP.out, if_pos (.inl hk0)]
        have d1 : decide (k < 0) = true := decide_eq_true hk0
        have HK0 := Lib.hid hk0
        clear hk0
        unfold byteV
        go_enter Try.func47, Try.ntmps47
        go_wp2_with fail
        refine HIN.out.mono ?_
        rintro e w2 ⟨rfl, k2⟩
        have hL2 := HL.out.quiet k2
        have c0 : w2.cell? ⟨db, 0, none⟩ = some (.map (some L.mb)) := (dkl_cell hL2 0 (by omega)).1
        have hlk := (dkl_now hL2).look x HSZ.out
        rw [dirV_find, HF.out] at hlk
        simp only [Option.map_some, Option.getD_some, ptr] at hlk
        have K2 := Lib.hid k2
        clear k2 hL2
        go_wp2_with fail
        go_ret
        exact ⟨rfl, HX.out.quiet K2.out⟩
      · have d1 : decide (k < 0) = false := decide_eq_false hk0
        by_cases hk1 : ((a.file fi).b.length : Int) ≤ k
        · rw [HP.out, if_pos (.inr hk1)]
          have HK0 := Lib.hid hk0
          have HK1 := Lib.hid hk1
          clear hk0 hk1
          unfold byteV
          go_enter Try.func47, Try.ntmps47
          go_wp2_with fail
          refine HIN.out.mono ?_
          rintro e w2 ⟨rfl, k2⟩
          have hL2 := HL.out.quiet k2
          have c0 : w2.cell? ⟨db, 0, none⟩ = some (.map (some L.mb)) := (dkl_cell hL2 0 (by omega)).1
          have hlk := (dkl_now hL2).look x HSZ.out
          rw [dirV_find, HF.out] at hlk
          simp only [Option.map_some, Option.getD_some, ptr] at hlk
          obtain ⟨o4, hF, _⟩ := dkl_file hL2 HLT.out
          obtain ⟨e0, _, _, _, ⟨p, cp, hv⟩, _⟩ := file_at hF
          rw [hv] at e0
          have d2 : decide (((a.file fi).b.length : Int) ≤ k) = true := decide_eq_true HK1.out
          have K2 := Lib.hid k2
          clear k2 hL2 hF hv
          generalize (a.file fi).b.length = m at *
          go_wp2_with fail
          go_ret
          exact ⟨rfl, HX.out.quiet K2.out⟩
        · have HE := Lib.hid (HP.out.trans (if_neg (fun h => h.elim hk0 hk1)))
          have HK0 := Lib.hid hk0
          have HK1 := Lib.hid hk1
          obtain ⟨n, rfl⟩ : ∃ n : Nat, k = n := ⟨k.toNat, by omega⟩
          have hn : n < (a.file fi).b.length := by omega
          clear hk0 hk1 HP
          unfold byteV
          go_enter Try.func47, Try.ntmps47
          go_wp2_with fail
          refine HIN.out.mono ?_
          rintro e w2 ⟨rfl, k2⟩
          have hL2 := HL.out.quiet k2
          have c0 : w2.cell? ⟨db, 0, none⟩ = some (.map (some L.mb)) := (dkl_cell hL2 0 (by omega)).1
          have hlk := (dkl_now hL2).look x HSZ.out
          rw [dirV_find, HF.out] at hlk
          simp only [Option.map_some, Option.getD_some, ptr] at hlk
          obtain ⟨o4, hF, back⟩ := dkl_file hL2 HLT.out
          obtain ⟨e0, _, _, _, _, hrow⟩ := file_at hF
          obtain ⟨g, cap, hv, hcap, _, _, hfz, hcl⟩ := row_out hrow (by omega)
          rw [hv] at e0 hF hrow
          have hD := back _ _ _ (file_put hF n hn c)
          have hcn : w2.cell? ⟨g, n, none⟩ = some (byteV ((a.file fi).b[n]'hn)) := hcl n _ (by simp [bytesV, hn])
          have hfn := hfz n
          have HD := Lib.hid hD
          have d2 : decide (((a.file fi).b.length : Int) ≤ (n : Int)) = false := by simp; omega
          have d3 : decide (n < (a.file fi).b.length) = true := decide_eq_true hn
          unfold byteV at hcn
          have K2 := Lib.hid k2
          clear k2 hL2 hF hv hrow hcl hfz back hD
          go_wp2_with fail
          go_ret
          rw [HE.out] at HOK2 ⊢
          exact ⟨rfl, dk_shut HOK2.out _ HD.out⟩

end Go.Proofs.Ytbankfdgoolbdaa
namespace Go.Proofs.Ytbankfdgoolbdaa
open Go Go.RowKit Go.Lib
set_option linter.unusedVariables false
variable {o : List Nat} {w0 w w' w1 w3 w4 w5 : World} {db : Nat} {a : ADk} {L : DLay}

/-- A slice of bytes anywhere, of which nothing but its cells is asked. -/
structure BytesX (w : World) (v : Value) (b : List UInt8) : Prop where
  out : ∃ p c, v = .slice p b.length c ∧ (p = none → b.length = 0 ∧ c = 0) ∧ ∀ x, p = some x → ∀ j u, (bytesV b)[j]? = some u → w.cell? (x.add j) = some u

theorem BytesAt.x {v : Value} {b : List UInt8} (h : BytesAt w v b) : BytesX w v b := by
  obtain ⟨p, c, rfl, h2, h3, h4⟩ := h.out
  exact ⟨p, c, rfl, h3, fun x hx => (h4 x hx).2⟩

theorem append_nothing (w : World) (p : Option Addr) (n c : Nat) (h : n ≤ c) : (Builtin.append_ #[27, 27] 27 #[.slice p n c, .slice none 0 0]).run Try.prog w = .ok (.slice p n c) w := by
  obtain ⟨i0, hi, he⟩ := Option.map_eq_some_iff.1 info_u8
  exact run_append_nothing w _ _ _ 5 i0 Try.underlying27 hi p n c h _ (Src.ofNil w Try.underlying27 0)

/-- Bytes appended to a row of the call's own. -/
theorem run_append_bytes (w : World) (v x : Value) (xs ys : List UInt8) (hown : w.ownsRow 0 5 1 v xs.length (bytesV xs)) (hx : BytesX w x ys) (hb : xs.length + ys.length ≤ 262144) :
    ∃ v' w', (∀ ty, (Builtin.append_ #[27, 27] ty #[v, x]).run Try.prog w = .ok v' w') ∧ Appended w w' 5 1 v v' (xs ++ ys).length (bytesV (xs ++ ys)) := by
  obtain ⟨p, c, rfl, hn, hc⟩ := hx.out
  obtain ⟨i0, hi, he⟩ := Option.map_eq_some_iff.1 info_u8
  obtain ⟨hz0, hz1, hz2⟩ : i0.zero = some (.int .u8 0) ∧ i0.size = 1 ∧ i0.bytes = 1 := by simpa using he
  cases p with
  | none =>
    obtain ⟨h0, rfl⟩ := hn rfl
    obtain rfl : ys = [] := List.eq_nil_of_length_eq_zero h0
    obtain ⟨q, n, c, rfl, hnc⟩ : ∃ q n c, v = .slice q n c ∧ n ≤ c := by
      rcases row_val hown with ⟨rfl, _⟩ | ⟨g, cap, rfl, h1, _⟩
      · exact ⟨_, _, _, rfl, Nat.le_refl _⟩
      · exact ⟨_, _, _, rfl, h1⟩
    refine ⟨_, _, fun _ => append_nothing w q n c hnc, ?_, ⟨rfl, rfl, rfl, Nat.le_refl _, fun _ _ _ => rfl⟩, .inl rfl⟩
    rw [List.append_nil]; exact hown
  | some ad =>
    have hc := hc ad rfl
    have hmx : (262144 : Nat) ≤ maxLen := by decide
    obtain ⟨v', w', hr, ha⟩ := run_append_new (P := Try.prog) w 27 27 5 i0 (.int .u8 0) 1 1 Try.underlying27 hi hz0 hz1 hz2 rfl (by decide) v xs.length (bytesV xs) hown ad ys.length c (bytesV ys) (by simp [bytesV_length]) hc (fun u hu => by
      unfold bytesV at hu
      obtain ⟨c, _, rfl⟩ := List.mem_map.1 hu
      rfl) (by omega) (by omega)
    refine ⟨v', w', fun _ => hr, ?_⟩
    rw [bytesV_append, List.length_append]
    exact ha

theorem step_append_run {P : Program} {ops : Array Oper} {op : Oper} {ac : Act} {W : World} {K : Act → World → Prop} {Q : Exit → Act → World → Prop} {E : Prop}
    (hg : op.guard = none) (s x : Operand) (t : TypeId) (hop : op.op = Op.call { callee := Callee.builtin Builtin.append, args := #[s, x], argTypes := #[t, t] }) (v xv : Value) (hs : ac.eval s = v) (hx : ac.eval x = xv)
    {v' : Value} {w' : World} (hrun : ∀ ty, (Builtin.append_ #[t, t] ty #[v, xv]).run P W = .ok v' w') (hK : K (ac.put op.dst v') w') :
    if Region.wanted op (yielded ops ac.tmps) = true then Oper.wp P op ac W K Q else E := by
  have hw : Region.wanted op (yielded ops ac.tmps) = true := by simp [Region.wanted, hg]
  rw [if_pos hw]
  unfold Oper.wp
  simp [execOp, hop, resolve, invoke, builtin, hs, hx, hrun, Result.andThen]
  exact hK

theorem Has.appendRow0 {e : TypeId} {v v' : Value} {len n : Nat} {xs ys : List Value} (h : Has o w0 w (.row e 1 v len xs)) (happ : Appended w w5 e 1 v v' n ys) : Has o w0 w5 (.row e 1 v' n ys) := by
  obtain ⟨fp, ⟨hr, rfl⟩, hn, k⟩ := h
  have k1 : Kept (rowsOf v) w w5 := (Kept.refl _ w).grown happ.grown fun b _ e => by simp [mem_rowsOf, e]
  refine Has.step hn k ⟨rowsOf v', ⟨happ.row, rfl⟩, ?_, k1⟩
  intro x hx
  rw [mem_rowsOf] at hx ⊢
  rcases happ.place with e | e
  · rw [e] at hx; exact .inl hx
  · rw [e] at hx
    simp only [Option.some.injEq] at hx
    right; omega

theorem rowSlice {e : TypeId} {v : Value} {n : Nat} {xs : List Value} (h : w.ownsRow 0 e 1 v n xs) : ∃ p c, v = .slice p n c := by
  rcases row_val h with ⟨rfl, h0⟩ | ⟨g, cap, rfl, _⟩
  · exact ⟨_, _, by rw [h0]⟩
  · exact ⟨_, _, rfl⟩

/-- A file's bytes are appended to. -/
theorem file_app {ad : Nat} {v v' : Value} {x : AFile} {ys : List UInt8} (h : Has o w0 w (fileP ad v x)) (happ : Appended w w5 5 1 v v' (x.b ++ ys).length (bytesV (x.b ++ ys))) :
    (w5.cell? ⟨ad, 0, none⟩ = some v ∧ w5.frozen? ⟨ad, 0, none⟩ = false) ∧ Has o w0 (w5.setCell ⟨ad, 0, none⟩ v') (fileP ad v' ⟨x.b ++ ys, x.sy⟩) := by
  obtain ⟨o1, h1, _, _, b1⟩ := h.right
  have h2 := b1 _ _ (Has.appendRow0 h1 happ)
  obtain ⟨o3, h3, _, _, b3⟩ := h2.left
  obtain ⟨c0, f0, st⟩ := h3.blkAt (i := 0) (by omega)
  refine ⟨⟨c0, f0⟩, ?_⟩
  have h4 := b3 _ _ (st v')
  have e : upd (fileCells v x.sy) 0 v' = fileCells v' x.sy := by
    funext i
    unfold upd
    match i with
    | 0 => rfl
    | 1 => rfl
    | i + 2 => rfl
  rw [e] at h4
  exact h4

theorem dirV_congr {ad ad' : Nat → Nat} {l : Dir} (h : ∀ p ∈ l, ad p.2 = ad' p.2) : dirV ad l = dirV ad' l := alMap_congr fun p hp => by
  show ptr (ad p.2) = ptr (ad' p.2)
  rw [h p hp]

/-- One file more, under no name yet. -/
theorem dkl_grow (h : Has o w0 w (DkL db a L)) (hok : a.Ok) {nb : Nat} {v : Value} {x : AFile} (hB : Has [] w w' (fileP nb v x)) :
    Has o w0 w' (DkL db { a with fs := a.fs ++ [x] } { L with addr := fun j => if j = a.fs.length then nb else L.addr j, bv := fun j => if j = a.fs.length then v else L.bv j }) := by
  have e1 : ∀ l : Dir, (∀ p ∈ l, p.2 < a.fs.length) → dirV (fun j => if j = a.fs.length then nb else L.addr j) l = dirV L.addr l := fun l hl => dirV_congr fun p hp => by
    have := hl p hp
    simp [show p.2 ≠ a.fs.length by omega]
  have h1 := dk_filed (g := fun i => fileP (if i = a.fs.length then nb else L.addr i) (if i = a.fs.length then v else L.bv i) (({ a with fs := a.fs ++ [x] } : ADk).file i)) h hB (by
    intro j hj
    unfold ADk.file
    by_cases e : j = a.fs.length
    · subst e; simp
    · simp only [if_neg e]
      rw [List.getD_eq_getElem?_getD, List.getD_eq_getElem?_getD, List.getElem?_append_left (by omega)])
  obtain ⟨o2, h2, b2⟩ := h1.dkBoxes
  have h3 := b2 _ a.log.length (fun j => boxP (fun j => if j = a.fs.length then nb else L.addr j) (L.b1 j) (L.b2 j) (a.log.getD j (.del []))) (h2.congr fun j hj => by
    cases hc : a.log.getD j (.del []) with
    | mk s i =>
      have hm : Chg.mk s i ∈ a.log := by
        rw [List.getD_eq_getElem?_getD] at hc
        have hj' := List.getElem?_eq_getElem hj
        rw [hj'] at hc
        simp only [Option.getD_some] at hc
        rw [← hc]; exact List.getElem_mem hj
      have := hok.logids s i hm
      unfold boxP
      simp only
      rw [if_neg (show i ≠ a.fs.length by omega)]
    | del s => rfl
    | ren s t => rfl)
  unfold DkL
  simp only
  rw [e1 a.now hok.now.ids, e1 a.old hok.ids, List.length_append]
  exact h3

theorem imp_comm (A B : Part) : (A.sep B).Imp (B.sep A) := by
  rintro w fp ⟨f, g, hA, hB, hd, rfl⟩
  exact ⟨g ++ f, ⟨g, f, hB, hA, fun x hx hx' => hd x hx' hx, rfl⟩, fun x hx => by simp at hx ⊢; exact hx.symm⟩

/-- A new file, its two boxes beside. -/
theorem app_new {s : Nm} {b1 b2 : Nat} {f : Nat → Value} (h1 : Has o w w4 (((DkL db a L).sep (.blk b2 1 9 (fun _ => nmV s))).sep (.blk b1 1 69 f))) (hok : a.Ok) :
    Has o w ((w4.alloc (.cells #[.slice none 0 0, .int .i64 0] 71)).setCell ⟨b1, 0, none⟩ (ptr w4.heap.size))
      ((DkL db { a with fs := a.fs ++ [⟨[], 0⟩] } { L with addr := fun j => if j = a.fs.length then w4.heap.size else L.addr j, bv := fun j => if j = a.fs.length then .slice none 0 0 else L.bv j }).sep
        (boxP (fun j => if j = a.fs.length then w4.heap.size else L.addr j) b1 b2 (.mk s a.fs.length))) := by
  have h2 := h1.weaken ((imp_assoc _ _ _).trans (Part.Imp.sep (Part.Imp.refl _) (imp_comm _ _)))
  obtain ⟨o', h3, _, _, back⟩ := h2.left
  have hfile : Has [] w4 (w4.alloc (.cells #[.slice none 0 0, .int .i64 0] 71)) (fileP w4.heap.size (.slice none 0 0) ⟨[], 0⟩) := by
    have hb := Has.madeBlk (w := w4) #[.slice none 0 0, .int .i64 0] 71 (fileCells (.slice none 0 0) 0) 2 rfl (by
      intro i hi
      match i with
      | 0 | 1 => rfl
      | i + 2 => omega)
    exact hb.beside (row_none _)
  have h4 := back _ _ (dkl_grow h3 hok hfile)
  obtain ⟨o5, h5, _, _, b5⟩ := h4.right
  obtain ⟨o6, h6, _, _, b6⟩ := h5.left
  have h7 := b5 _ _ (b6 _ _ ((h6.blkAt (i := 0) (by omega)).2.2 (ptr w4.heap.size)))
  have e : boxP (fun j => if j = a.fs.length then w4.heap.size else L.addr j) b1 b2 (.mk s a.fs.length) = (Part.blk b1 1 69 (upd f 0 (ptr w4.heap.size))).sep (.blk b2 1 9 (fun _ => nmV s)) := by
    unfold boxP
    simp only [if_true]
    congr 1
    unfold Part.blk
    congr 1
    funext w fp
    have e0 : ∀ g : Nat → Value, Blk w b1 1 69 g ↔ Blk w b1 1 69 (fun _ => g 0) := fun g =>
      ⟨fun h => h.congr fun i hi => by rw [show i = 0 by omega], fun h => h.congr fun i hi => by rw [show i = 0 by omega]⟩
    rw [e0 (upd f 0 (ptr w4.heap.size))]
    simp [upd]
  rw [e]
  exact h7

/-- Bytes are appended to a file's row. -/
theorem dkl_app (h : Has o w0 w (DkL db a L)) {i : Nat} (hi : i < a.fs.length) {v' : Value} {ys : List UInt8} (happ : Appended w w5 5 1 (L.bv i) v' ((a.file i).b ++ ys).length (bytesV ((a.file i).b ++ ys))) :
    Kept o w0 w5 ∧ w5.cell? ⟨L.addr i, 0, none⟩ = some (L.bv i) ∧ w5.frozen? ⟨L.addr i, 0, none⟩ = false ∧
      Has o w0 (w5.setCell ⟨L.addr i, 0, none⟩ v') (DkL db { a with fs := a.fs.set i ⟨(a.file i).b ++ ys, (a.file i).sy⟩ } { L with bv := fun j => if j = i then v' else L.bv j }) := by
  obtain ⟨o', hF, back⟩ := dkl_file h hi
  obtain ⟨⟨c0, f0⟩, hst⟩ := file_app hF happ
  obtain ⟨o2, h2, b2⟩ := h.dkFile hi
  obtain ⟨o3, h3, _, _, b3⟩ := h2.right
  have hk := b2 _ _ (b3 _ _ (Has.appendRow0 h3 happ))
  exact ⟨hk.keeps, c0, f0, back _ _ _ hst⟩

end Go.Proofs.Ytbankfdgoolbdaa
namespace Go.Proofs.Ytbankfdgoolbdaa
open Go
set_option linter.unusedVariables false
section
variable {α β : Type}

theorem rising_ext {l l' : List (Nm × α)} (h : Rising l) (h' : Rising l') (e : ∀ p, p ∈ l ↔ p ∈ l') : l = l' := by
  have hnd : ∀ {l : List (Nm × α)}, Rising l → l.Nodup := fun h => by
    refine List.Pairwise.imp (fun {p q} hb he => ?_) h
    rw [he, bytesBefore_irrefl] at hb
    cases hb
  have hp : l.Perm l' := (List.perm_ext_iff_of_nodup (hnd h) (hnd h')).2 e
  refine hp.eq_of_pairwise (fun a b _ _ h1 h2 => ?_) h h'
  have := bytesBefore_trans h1 h2
  rw [bytesBefore_irrefl] at this
  cases this

theorem rising_filter {l : List (Nm × α)} (h : Rising l) (f : Nm × α → Bool) : Rising (l.filter f) := h.filter _

theorem rising_map {l : List (Nm × α)} (h : Rising l) (f : α → β) : Rising (alMap f l) := by
  unfold Rising alMap
  rw [List.pairwise_map]
  exact h

/-- One name more is done. -/
theorem put_done {d : List (Nm × α)} (h : Rising d) {p : Nm × α} (hp : p ∈ d) (dn dn' : Nm → Bool) (hd : ∀ s, dn' s = (dn s || s == p.1)) :
    alPut (d.filter fun q => dn q.1) p.1 p.2 = d.filter fun q => dn' q.1 := by
  refine rising_ext (rising_put (rising_filter h _) _ _) (rising_filter h _) fun q => ?_
  rw [mem_alPut, List.mem_filter, List.mem_filter, hd]
  simp only [Bool.or_eq_true, beq_iff_eq]
  constructor
  · rintro (rfl | ⟨⟨h1, h2⟩, h3⟩)
    · exact ⟨hp, .inr rfl⟩
    · exact ⟨h1, .inl h2⟩
  · rintro ⟨h1, h2⟩
    by_cases e : q.1 = p.1
    · left
      exact h.inj h1 hp e
    · right
      exact ⟨⟨h1, h2.resolve_right e⟩, e⟩
end

/-- The last i bytes turned. -/
def torn (c : List UInt8) (i : Nat) : List UInt8 := c.take (c.length - i) ++ (c.drop (c.length - i)).map (· ^^^ 255)

theorem torn_zero (c : List UInt8) : torn c 0 = c := by
  unfold torn
  rw [Nat.sub_zero, List.take_length, List.drop_length]
  simp

theorem torn_len (c : List UInt8) (i : Nat) : (torn c i).length = c.length := by
  unfold torn
  rw [List.length_append, List.length_take, List.length_map, List.length_drop]
  omega

theorem torn_get {c : List UInt8} {i : Nat} (hi : i < c.length) : (torn c i)[c.length - 1 - i]? = c[c.length - 1 - i]? := by
  unfold torn
  rw [List.getElem?_append_left (by rw [List.length_take]; omega), List.getElem?_take_of_lt (by omega)]

theorem torn_succ {c : List UInt8} {i : Nat} (hi : i < c.length) : (torn c i).set (c.length - 1 - i) ((c.getD (c.length - 1 - i) 0) ^^^ 255) = torn c (i + 1) := by
  refine List.ext_getElem? fun j => ?_
  have hl := torn_len c i
  rw [List.getElem?_set, hl]
  have hget : ∀ k, (torn c k)[j]? = if j < c.length - k then c[j]? else (c[j]?).map (· ^^^ 255) := by
    intro k
    unfold torn
    by_cases e : j < c.length - k
    · rw [if_pos e, List.getElem?_append_left (by rw [List.length_take]; omega), List.getElem?_take_of_lt e]
    · rw [if_neg e, List.getElem?_append_right (by rw [List.length_take]; omega), List.getElem?_map, List.getElem?_drop, List.length_take]
      by_cases e2 : j < c.length
      · congr 2; omega
      · rw [List.getElem?_eq_none (by omega : c.length ≤ j), List.getElem?_eq_none (by omega)]
  rw [hget, hget]
  by_cases e : c.length - 1 - i = j
  · subst e
    rw [if_pos rfl, if_pos (by omega), if_neg (by omega)]
    rw [List.getD_eq_getElem?_getD, List.getElem?_eq_getElem (by omega)]
    rfl
  · rw [if_neg e]
    by_cases e2 : j < c.length - i
    · rw [if_pos e2, if_pos (by omega)]
    · rw [if_neg e2, if_neg (by omega)]

theorem left_eq (x : AFile) (hx : x.sy ≤ x.b.length) (keep tear : Int) : x.left keep tear = ⟨torn (x.b.take (x.sy + clamp keep (x.b.length - x.sy))) (clamp tear (clamp keep (x.b.length - x.sy))), (x.b.take (x.sy + clamp keep (x.b.length - x.sy))).length⟩ := by
  have hk : clamp keep (x.b.length - x.sy) ≤ x.b.length - x.sy := Nat.min_le_right _ _
  unfold AFile.left torn
  simp only
  generalize clamp keep (x.b.length - x.sy) = k at *
  have hn : (x.b.take (x.sy + k)).length = x.sy + k := by rw [List.length_take]; omega
  rw [hn, List.take_take]
  congr 2
  congr 1
  omega

theorem runLog_snoc {l m : Dir} {L : List Chg} {i : Nat} {c : Chg} (h : runLog l (L.take i) = some m) (hc : L[i]? = some c) : runLog l (L.take (i + 1)) = c.on m := by
  have hi := (List.getElem?_eq_some_iff.1 hc)
  obtain ⟨hlt, rfl⟩ := hi
  rw [List.take_succ_eq_append_getElem hlt, runLog_append, h]
  show (L[i].on m).bind (fun l' => some l') = _
  cases L[i].on m <;> rfl

end Go.Proofs.Ytbankfdgoolbdaa
namespace Go.Proofs.Ytbankfdgoolbdaa
open Go Go.RowKit Go.Maps Go.WideMaps
set_option linter.unusedVariables false
variable {o : List Nat} {w0 w w' : World} {A B : Part} {b r n cnt : Nat} {nv : List (Nm × Value)} {left : Lit → Bool}

/-- A part by itself, and back. -/
theorem Has.call (h : Has o w0 w A) : ∃ o', Has o' w w A ∧ (∀ x ∈ o', x < w.heap.size) ∧ ∀ w' B, Has o' w w' B → Has o w0 w' B := by
  obtain ⟨fp, hA, hn, k⟩ := h
  exact ⟨fp, .refl hA, A.lt hA, fun w' B hB => Has.step hn k hB⟩

/-- A map under way: which keys are still to come. -/
def Part.rng (b r : Nat) (nv : List (Nm × Value)) (left : Lit → Bool) (cnt : Nat) : Part where
  at_ w fp := w.ranges Try.prog 9 anyElem b r nv.length (dmap nv) left cnt ∧ fp = [b, r]
  lt := by
    rintro w fp ⟨h, rfl⟩ x hx
    have h1 := h.owns.lt
    have h2 := h.lt
    simp at hx
    rcases hx with rfl | rfl
    · exact h1
    · exact h2
  kept := by
    rintro own w w' fp ⟨h, rfl⟩ k hn
    have h1 := h.owns.lt
    have h2 := h.lt
    obtain ⟨es, clock, since, seen, c0, hb, F, hs, hD, hr, rest⟩ := h
    exact ⟨⟨es, clock, since, seen, c0, (k.block b h1 (hn b (by simp))).trans hb, F, hs, hD, (k.block r h2 (hn r (by simp))).trans hr, rest⟩, rfl⟩

theorem Has.rngAt (h : Has o w0 w (.rng b r nv left cnt)) : w.ranges Try.prog 9 anyElem b r nv.length (dmap nv) left cnt := by
  obtain ⟨fp, ⟨hm, _⟩, _⟩ := h
  exact hm

/-- A range begins. -/
theorem Has.rngBegin (h : Has o w0 w (.map b nv)) (hr : w'.ranges Try.prog 9 anyElem b w.heap.size nv.length (dmap nv) left cnt) (hg : w.grownBy w' none) :
    Has o w0 w' (.rng b w.heap.size nv left cnt) := by
  obtain ⟨fp, ⟨hm, rfl⟩, hn, k⟩ := h
  refine Has.step hn k ⟨[b, w.heap.size], ⟨hr, rfl⟩, fun x hx => ?_, (Kept.refl _ w).grown hg fun k _ e => by cases e⟩
  simp at hx
  rcases hx with rfl | rfl
  · exact .inl (by simp)
  · exact .inr (Nat.le_refl _)

/-- A range goes on. -/
theorem Has.rngNext {left' : Lit → Bool} {cnt' : Nat} (h : Has o w0 w (.rng b r nv left cnt)) (hr : w'.ranges Try.prog 9 anyElem b r nv.length (dmap nv) left' cnt') (hg : w.grownBy w' (some r)) :
    Has o w0 w' (.rng b r nv left' cnt') := by
  obtain ⟨fp, ⟨hm, rfl⟩, hn, k⟩ := h
  refine Has.step hn k ⟨[b, r], ⟨hr, rfl⟩, fun x hx => .inl hx, (Kept.refl _ w).grown hg fun k _ e => by cases e; simp⟩

/-- What comes out of a range lies in the map. -/
theorem rng_entry {x : ByteArray} {c : Value} {kl : Lit} {y : DataW Value × List MemPlace} (hk : keyOf Try.prog 9 (.string x) = some kl) (hy : anyElem c = some y) (hat : ∀ zd, (dmap nv).atKey kl zd = y.1) :
    kl = .string x.data.toList ∧ alFind nv x.data.toList = some c ∧ x.size ≤ maxLen := by
  have hkl : kl = .string x.data.toList ∧ x.size ≤ maxLen := by
    obtain ⟨s, h1, h2, h3⟩ := Maps.keyOf_str Try.underlying9 hk
    unfold encStr at h1
    obtain rfl : x = ⟨s.toArray⟩ := by injection h1
    exact ⟨h2, h3⟩
  obtain ⟨rfl, hx⟩ := hkl
  unfold anyElem at hy
  cases hy
  have h1 := hat .nil
  rw [dmap_at] at h1
  cases hf : alFind nv x.data.toList with
  | none => rw [hf] at h1; simp at h1
  | some v => rw [hf] at h1; simp at h1; exact ⟨rfl, by rw [h1], hx⟩

theorem has_key (nv : List (Nm × Value)) (s : Nm) : Maps.has (dmap nv) (.string s) = nv.any fun p => p.1 == s := by
  show (dmapL nv).any (fun p => p.1.sameKey (.string s)) = _
  unfold dmapL
  rw [List.any_map]
  rfl

/-- A part in the place of another one among many. -/
theorem Has.allPut {f : Nat → Part} (h : Has o w0 w (.all n f)) {i : Nat} (hi : i < n) (hB : Has [] w w' B) : Has o w0 w' (.all n (updP f i B)) := by
  obtain ⟨o', _, _, _, back⟩ := h.pick hi
  exact back _ _ hB.any

end Go.Proofs.Ytbankfdgoolbdaa
namespace Go.Proofs.Ytbankfdgoolbdaa
open Go Go.RowKit Go.Maps
set_option linter.unusedVariables false
variable {o : List Nat} {w0 w w' w1 : World} {db : Nat} {a : ADk} {L : DLay} {l : Dir} {x : Nat → AFile} {left : Nm → Bool}

def nmAt (l : Dir) (j : Nat) : Nm := (l.getD j ([], 0)).1
def numbered (l : Dir) : Dir := (l.map (·.1)).zipIdx

theorem numbered_map (l : Dir) : (numbered l).map (·.1) = l.map (·.1) := by simp [numbered]

theorem numbered_rising (h : Rising l) : Rising (numbered l) := by
  have h1 : (l.map (·.1)).Pairwise fun p q => bytesBefore p q = true := List.pairwise_map.2 h
  rw [← numbered_map, List.pairwise_map] at h1
  exact h1

theorem numbered_get {j : Nat} (hj : j < l.length) : (numbered l)[j]? = some (nmAt l j, j) := by
  unfold numbered nmAt
  rw [List.getElem?_zipIdx, List.getElem?_map, List.getD_eq_getElem?_getD, List.getElem?_eq_getElem hj]
  simp

theorem numbered_mem {p : Nm × Nat} (h : p ∈ numbered l) : p.2 < l.length ∧ p.1 = nmAt l p.2 := by
  obtain ⟨j, hj⟩ := List.mem_iff_getElem?.1 h
  have hlt : j < l.length := by
    have := (List.getElem?_eq_some_iff.1 hj).1
    simpa [numbered] using this
  rw [numbered_get hlt] at hj
  cases hj
  exact ⟨hlt, rfl⟩

theorem nmAt_inj (h : Rising l) {i j : Nat} (hi : i < l.length) (hj : j < l.length) (e : nmAt l i = nmAt l j) : i = j := by
  have h1 := List.mem_of_getElem? (numbered_get hi)
  have h2 := List.mem_of_getElem? (numbered_get hj)
  have := (numbered_rising h).inj h1 h2 e
  simpa using congrArg Prod.snd this

/-- The new disk under way. -/
def CrO (db : Nat) (l : Dir) (x : Nat → AFile) (left : Nm → Bool) (L : DLay) : Part :=
  DkC db (dkCells L ADk.new) L.mb (dirV L.addr ((numbered l).filter fun q => !left q.1)) L.ob [] L.lv [] l.length
    (fun j => if left (nmAt l j) = true then Part.emp else fileP (L.addr j) (L.bv j) (x j)) 0 (fun _ => Part.emp)

theorem all_emp (w : World) (n : Nat) (f : Nat → Part) (hf : ∀ i, i < n → f i = Part.emp) : Has [] w w (.all n f) :=
  ⟨[], ⟨fun _ => [], fun i hi => by rw [hf i hi]; exact rfl, fun i j _ _ _ x hx => by simp at hx, fun x => by simp⟩, by simp, Kept.refl _ _⟩

theorem cro_begin (h : Has o w0 w (Dk db ADk.new)) (hl : ∀ j, j < l.length → left (nmAt l j) = true) : ∃ L, Has o w0 w (CrO db l x left L) := by
  obtain ⟨_, L, h1⟩ := dk_open h
  refine ⟨L, ?_⟩
  obtain ⟨o2, h2, b2⟩ := h1.dkFiles
  have h3 := b2 w l.length (fun j => if left (nmAt l j) = true then Part.emp else fileP (L.addr j) (L.bv j) (x j)) (all_emp w _ _ fun i hi => if_pos (hl i hi)).any
  obtain ⟨o4, h4, b4⟩ := h3.dkBoxes
  have h5 := b4 w 0 (fun _ => Part.emp) (Has.nothing _).any
  have e : (numbered l).filter (fun q => !left q.1) = [] := by
    rw [List.filter_eq_nil_iff]
    intro p hp
    obtain ⟨h6, h7⟩ := numbered_mem hp
    rw [h7, hl _ h6]
    simp
  unfold CrO
  rw [e]
  exact h5

theorem cro_cell (h : Has o w0 w (CrO db l x left L)) (i : Nat) (hi : i < 6) : w.cell? ⟨db, i, none⟩ = some (dkCells L ADk.new i) ∧ w.frozen? ⟨db, i, none⟩ = false := ⟨(h.dkCell hi).1, (h.dkCell hi).2.1⟩

/-- One file more. -/
theorem cro_put (h : Has o w0 w (CrO db l x left L)) (hr : Rising l) (hlen : l.length ≤ 64) {j nb : Nat} (hj : j < l.length) {v : Value} (hB : Has [] w w1 (fileP nb v (x j))) (s : ByteArray) (hs : s.data.toList = nmAt l j) (hsz : s.size ≤ maxLen) :
    w1.cell? ⟨db, 0, none⟩ = some (.map (some L.mb)) ∧ ∃ w2, (Instr.mapUpdate 60 (.map (some L.mb)) (.string s) (ptr nb)).run Try.prog w1 = .ok () w2 ∧
      ∃ L', Has o w0 w2 (CrO db l x (fun t => left t && !(t == s.data.toList)) L') := by
  have hmx : (64 : Nat) < maxLen := by decide
  obtain ⟨o2, h2, b2⟩ := h.dkFiles
  have h3 := b2 w1 _ _ (Has.allPut h2 hj hB)
  have c0 := (h3.dkCell (i := 0) (by omega)).1
  obtain ⟨o4, h4, _, b4⟩ := h3.dkNow
  obtain ⟨w2, hrun, h5, k5⟩ := h4.mapStore s hsz (by
    rw [dirV_len]
    have h6 := List.length_filter_le (fun q : Nm × Nat => !left q.1) (numbered l)
    have h7 : (numbered l).length = l.length := by simp [numbered]
    exact Nat.lt_of_le_of_lt (Nat.le_trans h6 (h7 ▸ hlen)) hmx) (ptr nb)
  refine ⟨c0, w2, hrun, { L with addr := fun i => if i = j then nb else L.addr i, bv := fun i => if i = j then v else L.bv i }, ?_⟩
  have h6 := b4 _ _ _ h5
  have hput := put_done (numbered_rising hr) (List.mem_of_getElem? (numbered_get hj)) (fun t => !left t) (fun t => !(left t && !(t == nmAt l j))) (fun t => by cases left t <;> simp)
  have e1 : dirV (fun i => if i = j then nb else L.addr i) ((numbered l).filter fun q => !(left q.1 && !(q.1 == s.data.toList))) = alPut (dirV L.addr ((numbered l).filter fun q => !left q.1)) s.data.toList (ptr nb) := by
    rw [hs, ← hput, dirV_put]
    simp only [if_true]
    unfold alPut
    refine congrArg (alIns (nmAt l j, ptr nb)) ?_
    rw [← dirV_del, ← dirV_del]
    refine dirV_congr fun p hp => ?_
    have hp1 := (List.mem_filter.1 hp)
    obtain ⟨h7, h8⟩ := numbered_mem (List.mem_filter.1 hp1.1).1
    have hne : p.1 ≠ nmAt l j := by simpa using hp1.2
    rw [if_neg (show p.2 ≠ j by rintro rfl; exact hne h8)]
  obtain ⟨o7, h7, b7⟩ := h6.dkFiles
  have h8 := b7 w2 l.length (fun i => if (left (nmAt l i) && !(nmAt l i == s.data.toList)) = true then Part.emp else fileP (if i = j then nb else L.addr i) (if i = j then v else L.bv i) (x i)) (h7.congr fun i hi => by
    unfold updP
    by_cases e : i = j
    · subst e
      simp [hs]
    · have hne : nmAt l i ≠ s.data.toList := by rw [hs]; exact fun e' => e (nmAt_inj hr hi hj e')
      simp [e, hne])
  unfold CrO
  rw [e1]
  have e2 : dkCells { L with addr := fun i => if i = j then nb else L.addr i, bv := fun i => if i = j then v else L.bv i } ADk.new = dkCells L ADk.new := by
    funext i
    match i with
    | 0 | 1 | 2 | 3 | 4 | 5 => rfl
    | i + 6 => rfl
  rw [e2]
  exact h8

theorem cro_now (h : Has o w0 w (CrO db l x left L)) : MapAt w L.mb (dirV L.addr ((numbered l).filter fun q => !left q.1)) := by
  obtain ⟨o', h', _⟩ := h.dkNow
  exact h'.mapAt

/-- The end: all files are made, the names are synced. -/
theorem cro_end (h : Has o w0 w (CrO db l x left L)) (hd : ∀ j, j < l.length → left (nmAt l j) = false) {ob : Nat} (hB : Has [] w w1 (.map ob (dirV L.addr ((numbered l).filter fun q => !left q.1)))) (fs : List AFile) (hfs : fs.length = l.length) (hx : ∀ j, j < l.length → fs.getD j ⟨[], 0⟩ = x j) :
    Has o w0 (w1.setCell ⟨db, 1, none⟩ (.map (some ob))) (DkL db ⟨fs, numbered l, numbered l, [], 0, -1, false⟩ { L with ob := ob }) := by
  have e : (numbered l).filter (fun q => !left q.1) = numbered l := by
    rw [List.filter_eq_self]
    intro p hp
    obtain ⟨h6, h7⟩ := numbered_mem hp
    rw [h7, hd _ h6]
    rfl
  unfold CrO at h
  rw [e] at h hB
  obtain ⟨o1, h1, b1⟩ := h.dkOld
  have h2 := b1 _ _ _ hB.any
  have h3 := (h2.dkCell (i := 1) (by omega)).2.2 (.map (some ob))
  have e1 : upd (dkCells L ADk.new) 1 (.map (some ob)) = dkCells { L with ob := ob } ⟨fs, numbered l, numbered l, [], 0, -1, false⟩ := by
    funext i
    unfold upd
    match i with
    | 0 | 2 | 3 | 4 | 5 => rfl
    | 1 => rfl
    | i + 6 => rfl
  rw [e1] at h3
  obtain ⟨o4, h4, b4⟩ := h3.dkFiles
  have h5 := b4 (w1.setCell ⟨db, 1, none⟩ (.map (some ob))) fs.length (fun j => fileP (L.addr j) (L.bv j) (fs.getD j ⟨[], 0⟩)) (by
    rw [hfs]
    exact h4.congr fun j hj => by rw [if_neg (by rw [hd j hj]; simp), hx j hj])
  obtain ⟨o6, h6, b6⟩ := h5.dkBoxes
  exact b6 (w1.setCell ⟨db, 1, none⟩ (.map (some ob))) 0 _ (Has.nothing _).any

end Go.Proofs.Ytbankfdgoolbdaa
