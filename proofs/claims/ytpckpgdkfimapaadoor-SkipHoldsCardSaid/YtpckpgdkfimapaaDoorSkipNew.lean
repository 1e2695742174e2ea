/- A new list; what an operation found. -/
import Derived.Test.YtpckpgdkfimapaaDoorSkipStep
namespace Go.Proofs.YtpckpgdkfimapaaDoor
open Go Go.RowKit
set_option linter.unusedVariables false

variable {o : List Nat} {w0 w : World} {b : Nat} {x : SkIx} {T : ASk} {ob : Nat} {q : ASop}

theorem results_tmp4 {fn : Func} {t u v s : Tmp} (h : fn.results = #[.tmp t, .tmp u, .tmp v, .tmp s]) (tmps : Array Value) (P : Program) (w : World) :
    (results fn tmps).run P w = .ok (.tuple #[tmps.getD t undef, tmps.getD u undef, tmps.getD v undef, tmps.getD s undef]) w := by
  simp [results, h]
set_option maxHeartbeats 2000000 in
set_option maxRecDepth 100000 in
theorem ref_walk {tb : Option Addr} (h : Has o w0 w (.sop ob tb q)) (hd : q.does = 3) :
    Calls Tryd.prog 10 #[.pointer (some ⟨ob, 0, none⟩)] w fun e w' => e = .returned (.tuple #[.string q.found, .int .i64 q.ref, .bool q.had, .int .i64 q.code]) ∧ Kept [] w w' := by
  have c22 : w.cell? ⟨ob, 22, none⟩ = some (.int .i64 3) := by rw [← hd]; exact sop_cell h 22 (by omega)
  have c44 : w.cell? ⟨ob, 44, none⟩ = some (.string q.found) := sop_cell h 44 (by omega)
  have c20 : w.cell? ⟨ob, 20, none⟩ = some (.int .i64 q.ref) := sop_cell h 20 (by omega)
  have c45 : w.cell? ⟨ob, 45, none⟩ = some (.bool q.had) := sop_cell h 45 (by omega)
  have c46 : w.cell? ⟨ob, 46, none⟩ = some (.int .i64 q.code) := sop_cell h 46 (by omega)
  clear h
  go_enter Tryd.func10, Tryd.ntmps10
  go_wp2_with fail
  go_quiet (fail)
  go_wp2_with fail
  ((try simp only [Exit.inBlock, Exit.then]); refine bodyPost_ret (results_tmp4 rfl _ _ _) rfl ?_)
  exact ⟨rfl, (Kept.refl [] w).drewN _⟩
set_option maxHeartbeats 2000000 in
theorem ref_nil (w : World) :
    Calls Tryd.prog 10 #[.pointer none] w fun e w' => e = .returned (.tuple #[.string ⟨#[]⟩, .int .i64 0, .bool false, .int .i64 1]) ∧ w' = w := by
  go_enter Tryd.func10, Tryd.ntmps10
  go_wp2_with fail
  ((try simp only [Exit.inBlock, Exit.then]); refine bodyPost_ret (results_tmp4 rfl _ _ _) rfl ?_)
  exact ⟨rfl, rfl⟩
set_option maxHeartbeats 2000000 in
theorem ref_early {tb : Option Addr} (h : Has o w0 w (.sop ob tb q)) (hd : q.does = 0 ∨ q.does = 1 ∨ q.does = 2) :
    Calls Tryd.prog 10 #[.pointer (some ⟨ob, 0, none⟩)] w fun e w' => e = .returned (.tuple #[.string ⟨#[]⟩, .int .i64 0, .bool false, .int .i64 2]) ∧ w' = w := by
  have c22 : w.cell? ⟨ob, 22, none⟩ = some (.int .i64 q.does) := sop_cell h 22 (by omega)
  clear h
  rcases hd with h | h | h
  all_goals (
    rw [h] at c22
    go_enter Tryd.func10, Tryd.ntmps10
    go_wp2_with fail
    ((try simp only [Exit.inBlock, Exit.then]); refine bodyPost_ret (results_tmp4 rfl _ _ _) rfl ?_)
    exact ⟨rfl, rfl⟩)
set_option maxHeartbeats 2000000 in
theorem stepn_nil (w : World) :
    Calls Tryd.prog 21 #[.pointer none] w fun e w' => e = .returned (.bool true) ∧ w' = w := by
  go_enter Tryd.func21, Tryd.ntmps21
  go_wp2_with fail
  go_ret
  exact ⟨rfl, rfl⟩
set_option maxHeartbeats 2000000 in
theorem keys_nil (w : World) :
    Calls Tryd.prog 15 #[.pointer none] w fun e w' => e = .returned (.slice none 0 0) ∧ w' = w := by
  go_enter Tryd.func15, Tryd.ntmps15
  go_wp2_with fail
  go_ret
  exact ⟨rfl, rfl⟩
set_option maxHeartbeats 2000000 in
theorem new_nil (w : World) :
    Calls Tryd.prog 18 #[.pointer none] w fun e w' => e = .returned (.tuple #[.pointer none, .int .i64 1]) ∧ w' = w := by
  go_enter Tryd.func18, Tryd.ntmps18
  go_wp2_with fail
  go_ret2
  exact ⟨rfl, rfl⟩
set_option maxHeartbeats 4000000 in
set_option maxRecDepth 100000 in
/-- A step of an operation of no list. -/
theorem step_nolist (h : Has o w0 w (.sop ob none q)) (hb : q.begun = false) (hd : q.does = 0) :
    Calls Tryd.prog 21 #[.pointer (some ⟨ob, 0, none⟩)] w fun e w' => e = .returned (.bool true) ∧ Has o w0 w' (.sop ob none ({ q with begun := true }.ends ⟨#[]⟩ 0 false 1)) := by
  have c22 : w.cell? ⟨ob, 22, none⟩ = some (.int .i64 0) := by rw [← hd]; exact sop_cell h 22 (by omega)
  have c23 : w.cell? ⟨ob, 23, none⟩ = some (.bool false) := by rw [← hb]; exact sop_cell h 23 (by omega)
  have z23 := sop_free h 23 (by omega)
  have HX := Lib.hid (sop_begun h true)
  have c0 : (w.setCell ⟨ob, 23, none⟩ (.bool true)).cell? ⟨ob, 0, none⟩ = some (.pointer none) := sop_cell HX.out 0 (by omega)
  clear h hb hd
  go_enter Tryd.func21, Tryd.ntmps21
  go_wp2_with fail
  refine (ends_walk HX.out _ _ _ _).mono ?_
  rintro e w7 ⟨rfl, hX7⟩
  have HX7 := Lib.hid hX7
  clear hX7
  go_wp2_with fail
  go_ret
  exact ⟨rfl, HX7.out⟩

/-- A list of no node yet, and a new one. -/
def ASk.nil (ab size : Nat) (st : Int) : ASk := ⟨ab, size, st, 0, fun _ => ⟨⟨#[]⟩, ⟨#[]⟩, 0, 0, fun _ => 0, false⟩⟩
def ASk.fresh (ab size : Nat) (st : Int) : ASk := (ASk.nil ab size st).add ⟨#[]⟩ ⟨#[]⟩ 0 8
theorem nilRep (S : Ar) (ab : Nat) (hS : ∀ c, S.get c = none) (hb : S.size ≤ 65536) : SkRep S (fun _ _ => 0) (ASk.nil ab S.size S.steps) := by
  have hn : ∀ l, (ASk.nil ab S.size S.steps).at_ l = none := fun l => by
    unfold ASk.at_
    exact if_neg (fun h => Nat.not_lt_zero _ h.1)
  refine ⟨rfl, hb, rfl, ⟨fun l v h => ?_, fun l l' h _ _ => ?_, fun l v h => ?_, ?_, fun l v h => ?_⟩, fun l v h => ?_⟩
  · rw [hn] at h; cases h
  · rw [hn] at h; cases h
  · rw [hn] at h; cases h
  · show cnt S.get S.size = 0
    have : ∀ n, cnt S.get n = 0 := fun n => by
      induction n with
      | zero => rfl
      | succ n ih => unfold cnt; rw [ih, hS n]; rfl
    exact this _
  · rw [hn] at h; cases h
  · rw [hn] at h; cases h

set_option maxHeartbeats 8000000 in
set_option maxRecDepth 100000 in
theorem sknew_walk {ab : Nat} {S : Ar} (h : Has o w0 w (.arena ab S)) (hS : ∀ c, S.get c = none) (h8 : 8 ≤ S.size) (hb : S.size ≤ 65536) (hT : TabAt w0) (ho : 0 ∉ o) :
    Calls Tryd.prog 18 #[.pointer (some ⟨ab, 0, none⟩)] w fun e w' => ∃ b x, e = .returned (.tuple #[.pointer (some ⟨b, 0, none⟩), .int .i64 0]) ∧ SkRep x.S x.C (ASk.fresh ab S.size S.steps) ∧ Has o w0 w' (SkP b x (ASk.fresh ab S.size S.steps)) := by
  have hA1 := (h.beside (Has.madeBlk (w := w) #[.pointer (some ⟨ab, 0, none⟩), .slice none 0 0] 73 (skF ab (.slice none 0 0)) 2 rfl (fun i hi => match i, hi with | 0, _ => rfl | 1, _ => rfl))).swap
  have hA2 := hA1.beside ((Has.rowsNil _ 77 1 (ptrF (fun _ => 0))).beside (Has.nothing (fun i => Part.node 0 ((ASk.nil ab S.size S.steps).E i) (fun _ => 0))))
  have hA3 : Has o w0 _ (SkP w.heap.size ⟨.slice none 0 0, S, fun _ _ => 0, fun _ => 0⟩ (ASk.nil ab S.size S.steps)) := hA2
  have hX2 := (hA3.beside (Has.madeNode _ ⟨⟨#[]⟩, ⟨#[]⟩, 0, 8, fun _ => 0, false⟩ #[.string ⟨#[]⟩, .int .u8 0, .int .u8 0, .int .u8 0, .int .u8 0, .int .u8 0, .int .u8 0, .int .u8 0, .int .u8 0, .int .u8 0, .int .u8 0, .int .u8 0, .int .u8 0, .int .u8 0, .int .u8 0, .int .u8 0, .int .u8 0, .int .u8 0, .int .i64 0, .int .i64 0, .int .i64 0, .int .i64 0, .int .i64 0, .int .i64 0, .int .i64 0, .int .i64 0, .int .i64 0, .int .i64 8] rfl (fun i hi => by
    rcases (by omega : i = 0 ∨ i = 1 ∨ i = 2 ∨ i = 3 ∨ i = 4 ∨ i = 5 ∨ i = 6 ∨ i = 7 ∨ i = 8 ∨ i = 9 ∨ i = 10 ∨ i = 11 ∨ i = 12 ∨ i = 13 ∨ i = 14 ∨ i = 15 ∨ i = 16 ∨ i = 17 ∨ i = 18 ∨ i = 19 ∨ i = 20 ∨ i = 21 ∨ i = 22 ∨ i = 23 ∨ i = 24 ∨ i = 25 ∨ i = 26 ∨ i = 27) with rfl | rfl | rfl | rfl | rfl | rfl | rfl | rfl | rfl | rfl | rfl | rfl | rfl | rfl | rfl | rfl | rfl | rfl | rfl | rfl | rfl | rfl | rfl | rfl | rfl | rfl | rfl | rfl <;> rfl)))
  rw [show (w.alloc (.cells #[.pointer (some ⟨ab, 0, none⟩), .slice none 0 0] 73)).heap.size = w.heap.size + 1 by simp] at hX2
  have HX2 := Lib.hid hX2
  have HR := Lib.hid (nilRep S ab hS hb)
  have HT := Lib.hid hT
  have HO := Lib.hid ho
  obtain ⟨i0, hi0, hz0, hz1, hz2⟩ := info_parts info_ptr
  clear h hA1 hA2 hA3 hS hT ho hX2
  go_enter Tryd.func18, Tryd.ntmps18
  go_wp2_with fail
  have HGR := Lib.hid (grow_walk HX2.out HR.out (by omega) (by show 0 + 8 ≤ S.size; omega) HT.out HO.out)
  generalize (w.alloc (.cells #[.pointer (some ⟨ab, 0, none⟩), .slice none 0 0] 73)).alloc _ = w2 at *
  generalize w.heap.size + 1 = nb at *
  generalize w.heap.size = b at *
  refine HGR.out.mono ?_
  rintro e w3 ⟨rfl, S3, c3, hr3, hX3⟩
  have HX3 := Lib.hid hX3
  have HR3 := Lib.hid hr3
  obtain ⟨oL3, hL3, _⟩ := hX3.left
  have f1 : w3.cell? ⟨b, 1, none⟩ = some (.slice none 0 0) := (SkP.fields hL3).2.1
  obtain ⟨oR3, hR3⟩ := SkP.rows hL3
  have hrow : w3.ownsRow 0 77 1 (.slice none 0 0) 0 (flatN 0 (ptrF fun _ => 0)) := hR3.rowsOwn
  have HROW := Lib.hid hrow
  clear hX3 hr3 hL3 hR3 hrow HX2 HGR HR
  go_wp2_with (at_builtin; refine wpList_append_new rfl (.tmp 24) (.tmp 26) 71 rfl 77 i0 (.pointer none) 1 8 Tryd.underlying71 hi0 hz0 hz1 hz2 rfl (by decide) _ _ _ rfl (HROW.out.alloc _) ⟨_, 0, none⟩ 1 1 [.pointer (some ⟨nb, 0, none⟩)] rfl rfl (cells_one _ _ _ _ (by simp)) (by simp [Value.oneCell']) (by simp only [maxLen]; omega) (by omega) ?_)
  intro v' w6 happ
  obtain ⟨_, y2, z2, hP⟩ := sk_more _ HX3.out happ
  obtain ⟨gv, vcap, rfl⟩ : ∃ gv vcap, v' = .slice (some ⟨gv, 0, none⟩) (0 + 1) vcap := by
    rcases rowN_open happ.row with ⟨_, h0⟩ | ⟨gv, vc, e, _⟩
    · omega
    · exact ⟨gv, vc, e⟩
  have HP := Lib.hid hP
  clear happ hP
  go_wp2_with fail
  go_ret2
  refine ⟨b, rfl, _, ?_, HP.out⟩
  exact HR3.out
end Go.Proofs.YtpckpgdkfimapaaDoor
