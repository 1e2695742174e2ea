/- A step of an operation. -/
import Derived.Test.YtpckpgdkfimapaaDoorSkipLink
import Derived.Laws.EntriesVeiled
namespace Go.Proofs.YtpckpgdkfimapaaDoor
open Go Go.RowKit
set_option linter.unusedVariables false

variable {o : List Nat} {w0 w : World} {b : Nat} {x : SkIx} {T : ASk} {ob : Nat} {q : ASop}

/-- A key that may be. -/
def keyB (s : ByteArray) : Bool := decide (1 ≤ s.size) && decide (s.size ≤ 16)

set_option maxHeartbeats 1000000 in
theorem isKey_walk (w : World) (s : ByteArray) :
    Calls Tryd.prog 31 #[.string s] w fun e w' => e = .returned (.bool (keyB s)) ∧ w' = w := by
  go_enter Tryd.func31, Tryd.ntmps31
  go_wp2_with fail
  all_goals (
    rename_i hs
    have hl : s.toList.length = s.size := by
      rw [ByteArray.toList_eq]
      exact Array.length_toList
    go_ret
    refine ⟨?_, rfl⟩
    congr 1
    unfold keyB
    first
      | (have e : s.size = 0 := by rw [← hl, hs]; rfl
         rw [e]; rfl)
      | (have e : 1 ≤ s.size := by
           rw [← hl]
           exact List.length_pos_iff.2 hs
         have e2 : s.toList.isEmpty = false := by cases h : s.toList with
           | nil => exact absurd h hs
           | cons a l => rfl
         rw [e2, decide_eq_true e]
         congr 1
         simp
         omega))

def stepFs : Value := .agg #[.func (.func 37) #[] #[], .func (.func 38) #[] #[], .func (.func 39) #[] #[]]
set_option maxHeartbeats 1000000 in
theorem skfs_walk (w : World) :
    Calls Tryd.prog 33 #[] w fun e w' => e = .returned stepFs ∧ Kept [] w w' := by
  go_enter Tryd.func33, Tryd.ntmps33
  go_wp2_with fail
  refine bodyPost_ret (v := stepFs) ?_ rfl ?_
  · rw [results_cell (ad := ⟨w.heap.size, 0, none⟩) rfl _ _ _ rfl]
    refine run_loadVar_mid _ w.heap.size 0 82 [.func (.func 37) #[] #[], .func (.func 38) #[] #[], .func (.func 39) #[] #[]] _ ?_ Tryd.underlying82 rfl (by kernel_rfl)
    have hb := Blk.made w #[Value.func (Fn.func 37) #[] #[], Value.func (Fn.func 38) #[] #[], Value.func (Fn.func 39) #[] #[]] 82 (fun i => [Value.func (Fn.func 37) #[] #[], Value.func (Fn.func 38) #[] #[], Value.func (Fn.func 39) #[] #[]].getD i default) 3 rfl (fun i hi => match i, hi with | 0, _ => rfl | 1, _ => rfl | 2, _ => rfl)
    intro j v hv
    have hj : j < 3 := by have := (List.getElem?_eq_some_iff.1 hv).1; simpa using this
    rw [Nat.zero_add, hb.cell hj, List.getD_eq_getElem?_getD, hv]; rfl
  · exact ⟨rfl, (Kept.refl [] w).alloc _⟩

theorem index_walk (w : World) : (Instr.index 82 (.agg #[.func (.func 37) #[] #[], .func (.func 38) #[] #[], .func (.func 39) #[] #[]]) (.int .i64 0)).run Tryd.prog w = .ok (.func (.func 37) #[] #[]) w := by kernel_rfl
theorem index_lay (w : World) : (Instr.index 82 (.agg #[.func (.func 37) #[] #[], .func (.func 38) #[] #[], .func (.func 39) #[] #[]]) (.int .i64 1)).run Tryd.prog w = .ok (.func (.func 38) #[] #[]) w := by kernel_rfl
theorem index_link (w : World) : (Instr.index 82 (.agg #[.func (.func 37) #[] #[], .func (.func 38) #[] #[], .func (.func 39) #[] #[]]) (.int .i64 2)).run Tryd.prog w = .ok (.func (.func 39) #[] #[]) w := by kernel_rfl
theorem enter_walk (args : Array Value) (w : World) : (callFunc 37 args).run Tryd.prog w = .ok (.enter 37 args) w := by kernel_rfl
theorem enter_lay (args : Array Value) (w : World) : (callFunc 38 args).run Tryd.prog w = .ok (.enter 38 args) w := by kernel_rfl
theorem enter_link (args : Array Value) (w : World) : (callFunc 39 args).run Tryd.prog w = .ok (.enter 39 args) w := by kernel_rfl

set_option maxHeartbeats 2000000 in
set_option maxRecDepth 100000 in
/-- It is over. -/
theorem step_over (h : Has o w0 w (SkOp b x T ob q)) (hd : q.does = 3) :
    Calls Tryd.prog 21 #[.pointer (some ⟨ob, 0, none⟩)] w fun e w' => e = .returned (.bool true) ∧ w' = w := by
  have c22 : w.cell? ⟨ob, 22, none⟩ = some (.int .i64 3) := by rw [← hd]; exact (so_cell h 22 (by omega)).1
  clear h
  go_enter Tryd.func21, Tryd.ntmps21
  go_wp2_with fail
  go_ret
  exact ⟨rfl, rfl⟩

set_option maxHeartbeats 4000000 in
set_option maxRecDepth 100000 in
/-- A step that walks. -/
theorem step_on {F : Bool → World → Prop} (h : Has o w0 w (SkOp b x T ob q)) (hb : q.begun = true) (hd : q.does = 0)
    (hW : ∀ W, Has o w0 W (SkOp b x T ob q) → Calls Tryd.prog 37 #[.pointer (some ⟨ob, 0, none⟩)] W fun e w' => ∃ r, e = .returned (.bool r) ∧ F r w') :
    Calls Tryd.prog 21 #[.pointer (some ⟨ob, 0, none⟩)] w fun e w' => ∃ r, e = .returned (.bool r) ∧ F r w' := by
  have HX := Lib.hid h
  have HW := Lib.hid hW
  have he := enter_walk #[.pointer (some ⟨ob, 0, none⟩)]
  have hix := index_walk
  have c22 : w.cell? ⟨ob, 22, none⟩ = some (.int .i64 0) := by rw [← hd]; exact (so_cell h 22 (by omega)).1
  have c23 : w.cell? ⟨ob, 23, none⟩ = some (.bool true) := by rw [← hb]; exact (so_cell h 23 (by omega)).1
  clear h hW hb hd
  go_enter Tryd.func21, Tryd.ntmps21
  go_wp2_with fail
  go_region_law
    (first | (go_simp
              go_at_call 33
              refine (skfs_walk _).mono ?_
              rintro e w7 ⟨rfl, hk⟩
              have HK := Lib.hid hk
              have d22 := hk.cell c22 (by simp)
              clear hk
              unfold stepFs)
           | (go_simp
              go_at_call 37
              refine (HW.out _ ((HX.out.quiet ((Kept.refl _ _).drew)).quiet HK.out)).mono ?_
              rintro e w8 ⟨r, rfl, hF⟩
              have HFF := Lib.hid hF
              clear hF))
  all_goals (
    go_wp2_with fail
    go_ret
    exact ⟨r, rfl, HFF.out⟩)
set_option maxHeartbeats 4000000 in
set_option maxRecDepth 100000 in
/-- A step that lays. -/
theorem step_lay {F : Bool → World → Prop} (h : Has o w0 w (SkOp b x T ob q)) (hb : q.begun = true) (hd : q.does = 1)
    (hW : ∀ W, Has o w0 W (SkOp b x T ob q) → Calls Tryd.prog 38 #[.pointer (some ⟨ob, 0, none⟩)] W fun e w' => ∃ r, e = .returned (.bool r) ∧ F r w') :
    Calls Tryd.prog 21 #[.pointer (some ⟨ob, 0, none⟩)] w fun e w' => ∃ r, e = .returned (.bool r) ∧ F r w' := by
  have HX := Lib.hid h
  have HW := Lib.hid hW
  have he := enter_lay #[.pointer (some ⟨ob, 0, none⟩)]
  have hix := index_lay
  have c22 : w.cell? ⟨ob, 22, none⟩ = some (.int .i64 1) := by rw [← hd]; exact (so_cell h 22 (by omega)).1
  have c23 : w.cell? ⟨ob, 23, none⟩ = some (.bool true) := by rw [← hb]; exact (so_cell h 23 (by omega)).1
  clear h hW hb hd
  go_enter Tryd.func21, Tryd.ntmps21
  go_wp2_with fail
  go_region_law
    (first | (go_simp
              go_at_call 33
              refine (skfs_walk _).mono ?_
              rintro e w7 ⟨rfl, hk⟩
              have HK := Lib.hid hk
              have d22 := hk.cell c22 (by simp)
              clear hk
              unfold stepFs)
           | (go_simp
              go_at_call 38
              refine (HW.out _ ((HX.out.quiet ((Kept.refl _ _).drew)).quiet HK.out)).mono ?_
              rintro e w8 ⟨r, rfl, hF⟩
              have HFF := Lib.hid hF
              clear hF))
  all_goals (
    go_wp2_with fail
    go_ret
    exact ⟨r, rfl, HFF.out⟩)
set_option maxHeartbeats 4000000 in
set_option maxRecDepth 100000 in
/-- A step that links. -/
theorem step_link {F : Bool → World → Prop} (h : Has o w0 w (SkOp b x T ob q)) (hb : q.begun = true) (hd : q.does = 2)
    (hW : ∀ W, Has o w0 W (SkOp b x T ob q) → Calls Tryd.prog 39 #[.pointer (some ⟨ob, 0, none⟩)] W fun e w' => ∃ r, e = .returned (.bool r) ∧ F r w') :
    Calls Tryd.prog 21 #[.pointer (some ⟨ob, 0, none⟩)] w fun e w' => ∃ r, e = .returned (.bool r) ∧ F r w' := by
  have HX := Lib.hid h
  have HW := Lib.hid hW
  have he := enter_link #[.pointer (some ⟨ob, 0, none⟩)]
  have hix := index_link
  have c22 : w.cell? ⟨ob, 22, none⟩ = some (.int .i64 2) := by rw [← hd]; exact (so_cell h 22 (by omega)).1
  have c23 : w.cell? ⟨ob, 23, none⟩ = some (.bool true) := by rw [← hb]; exact (so_cell h 23 (by omega)).1
  clear h hW hb hd
  go_enter Tryd.func21, Tryd.ntmps21
  go_wp2_with fail
  go_region_law
    (first | (go_simp
              go_at_call 33
              refine (skfs_walk _).mono ?_
              rintro e w7 ⟨rfl, hk⟩
              have HK := Lib.hid hk
              have d22 := hk.cell c22 (by simp)
              clear hk
              unfold stepFs)
           | (go_simp
              go_at_call 39
              refine (HW.out _ ((HX.out.quiet ((Kept.refl _ _).drew)).quiet HK.out)).mono ?_
              rintro e w8 ⟨r, rfl, hF⟩
              have HFF := Lib.hid hF
              clear hF))
  all_goals (
    go_wp2_with fail
    go_ret
    exact ⟨r, rfl, HFF.out⟩)
set_option maxHeartbeats 4000000 in
set_option maxRecDepth 100000 in
/-- The first step, of a key that may not be. -/
theorem step_bad (h : Has o w0 w (SkOp b x T ob q)) (hb : q.begun = false) (hd : q.does = 0) (hk : q.kind = 0 ∨ q.kind = 1) (hkey : keyB q.key = false) :
    Calls Tryd.prog 21 #[.pointer (some ⟨ob, 0, none⟩)] w fun e w' => e = .returned (.bool true) ∧ Has o w0 w' (SkOp b x T ob ({ q with begun := true }.ends ⟨#[]⟩ 0 false 100)) := by
  have c22 : w.cell? ⟨ob, 22, none⟩ = some (.int .i64 0) := by rw [← hd]; exact (so_cell h 22 (by omega)).1
  have c23 : w.cell? ⟨ob, 23, none⟩ = some (.bool false) := by rw [← hb]; exact (so_cell h 23 (by omega)).1
  have z23 := (so_cell h 23 (by omega)).2
  have HX := Lib.hid (so_begun h true)
  have hix : ∀ W : World, Calls Tryd.prog 31 #[.string q.key] W fun e w' => e = .returned (.bool false) ∧ w' = W := fun W => by rw [← hkey]; exact isKey_walk W q.key
  have HIX := Lib.hid hix
  have c0 : (w.setCell ⟨ob, 23, none⟩ (.bool true)).cell? ⟨ob, 0, none⟩ = some (.pointer (some ⟨b, 0, none⟩)) := (so_cell HX.out 0 (by omega)).1
  have c1 : (w.setCell ⟨ob, 23, none⟩ (.bool true)).cell? ⟨ob, 1, none⟩ = some (.int .i64 q.kind) := (so_cell HX.out 1 (by omega)).1
  have c2 : (w.setCell ⟨ob, 23, none⟩ (.bool true)).cell? ⟨ob, 2, none⟩ = some (.string q.key) := (so_cell HX.out 2 (by omega)).1
  have g1 : (q.kind != 2) = true := by rcases hk with h | h <;> (rw [h]; rfl)
  have g2 : decide (q.kind = 2) = false := by rcases hk with h | h <;> (rw [h]; rfl)
  clear h hb hd hk hix hkey
  go_enter Tryd.func21, Tryd.ntmps21
  go_wp2_with (first | (refine (HIX.out _).mono ?_; rintro e w7 ⟨rfl, rfl⟩))
  refine (so_ends HX.out _ _ _ _).mono ?_
  rintro e w7 ⟨rfl, hX7⟩
  have HX7 := Lib.hid hX7
  clear hX7
  go_wp2_with fail
  go_ret
  exact ⟨rfl, HX7.out⟩
set_option maxHeartbeats 4000000 in
set_option maxRecDepth 100000 in
/-- The first step. -/
theorem step_first {F : Bool → World → Prop} (h : Has o w0 w (SkOp b x T ob q)) (hb : q.begun = false) (hd : q.does = 0) (hk : q.kind = 0 ∨ q.kind = 1) (hkey : keyB q.key = true)
    (hW : ∀ W, Has o w0 W (SkOp b x T ob { q with begun := true }.again) → Calls Tryd.prog 37 #[.pointer (some ⟨ob, 0, none⟩)] W fun e w' => ∃ r, e = .returned (.bool r) ∧ F r w') :
    Calls Tryd.prog 21 #[.pointer (some ⟨ob, 0, none⟩)] w fun e w' => ∃ r, e = .returned (.bool r) ∧ F r w' := by
  have HW := Lib.hid hW
  have he := enter_walk #[.pointer (some ⟨ob, 0, none⟩)]
  have hix := index_walk
  have c22 : w.cell? ⟨ob, 22, none⟩ = some (.int .i64 0) := by rw [← hd]; exact (so_cell h 22 (by omega)).1
  have c23 : w.cell? ⟨ob, 23, none⟩ = some (.bool false) := by rw [← hb]; exact (so_cell h 23 (by omega)).1
  have z23 := (so_cell h 23 (by omega)).2
  have HX := Lib.hid (so_begun h true)
  have c0 : (w.setCell ⟨ob, 23, none⟩ (.bool true)).cell? ⟨ob, 0, none⟩ = some (.pointer (some ⟨b, 0, none⟩)) := (so_cell HX.out 0 (by omega)).1
  have c1 : (w.setCell ⟨ob, 23, none⟩ (.bool true)).cell? ⟨ob, 1, none⟩ = some (.int .i64 q.kind) := (so_cell HX.out 1 (by omega)).1
  have c2 : (w.setCell ⟨ob, 23, none⟩ (.bool true)).cell? ⟨ob, 2, none⟩ = some (.string q.key) := (so_cell HX.out 2 (by omega)).1
  have hky : ∀ W : World, Calls Tryd.prog 31 #[.string q.key] W fun e w' => e = .returned (.bool true) ∧ w' = W := fun W => by rw [← hkey]; exact isKey_walk W q.key
  have HIX := Lib.hid hky
  have g1 : (q.kind != 2) = true := by rcases hk with h | h <;> (rw [h]; rfl)
  have g2 : decide (q.kind = 2) = false := by rcases hk with h | h <;> (rw [h]; rfl)
  clear h hb hd hk hky hkey
  clear hW
  go_enter Tryd.func21, Tryd.ntmps21
  go_wp2_with (first | (refine (HIX.out _).mono ?_; rintro e w7 ⟨rfl, rfl⟩))
  refine (so_again HX.out).mono ?_
  rintro e w6 ⟨rfl, hX6⟩
  have HX6 := Lib.hid hX6
  have c22 : w6.cell? ⟨ob, 22, none⟩ = some (.int .i64 0) := (so_cell hX6 22 (by omega)).1
  clear hX6 HX
  go_wp2_with fail
  go_region_law
    (first | (go_simp
              go_at_call 33
              refine (skfs_walk _).mono ?_
              rintro e w7 ⟨rfl, hk⟩
              have HK := Lib.hid hk
              have d22 := hk.cell c22 (by simp)
              clear hk
              unfold stepFs)
           | (go_simp
              go_at_call 37
              refine (HW.out _ ((HX6.out.quiet ((Kept.refl _ _).drew)).quiet HK.out)).mono ?_
              rintro e w8 ⟨r, rfl, hF⟩
              have HFF := Lib.hid hF
              clear hF))
  all_goals (
    go_wp2_with fail
    go_ret
    exact ⟨r, rfl, HFF.out⟩)
set_option maxHeartbeats 4000000 in
set_option maxRecDepth 100000 in
/-- The first step. -/
theorem step_first2 {F : Bool → World → Prop} (h : Has o w0 w (SkOp b x T ob q)) (hb : q.begun = false) (hd : q.does = 0) (hk : q.kind = 2)
    (hW : ∀ W, Has o w0 W (SkOp b x T ob { q with begun := true }.again) → Calls Tryd.prog 37 #[.pointer (some ⟨ob, 0, none⟩)] W fun e w' => ∃ r, e = .returned (.bool r) ∧ F r w') :
    Calls Tryd.prog 21 #[.pointer (some ⟨ob, 0, none⟩)] w fun e w' => ∃ r, e = .returned (.bool r) ∧ F r w' := by
  have HW := Lib.hid hW
  have he := enter_walk #[.pointer (some ⟨ob, 0, none⟩)]
  have hix := index_walk
  have c22 : w.cell? ⟨ob, 22, none⟩ = some (.int .i64 0) := by rw [← hd]; exact (so_cell h 22 (by omega)).1
  have c23 : w.cell? ⟨ob, 23, none⟩ = some (.bool false) := by rw [← hb]; exact (so_cell h 23 (by omega)).1
  have z23 := (so_cell h 23 (by omega)).2
  have HX := Lib.hid (so_begun h true)
  have c0 : (w.setCell ⟨ob, 23, none⟩ (.bool true)).cell? ⟨ob, 0, none⟩ = some (.pointer (some ⟨b, 0, none⟩)) := (so_cell HX.out 0 (by omega)).1
  have c1 : (w.setCell ⟨ob, 23, none⟩ (.bool true)).cell? ⟨ob, 1, none⟩ = some (.int .i64 q.kind) := (so_cell HX.out 1 (by omega)).1
  have c2 : (w.setCell ⟨ob, 23, none⟩ (.bool true)).cell? ⟨ob, 2, none⟩ = some (.string q.key) := (so_cell HX.out 2 (by omega)).1
  rw [hk] at c1
  clear h hb hd hk
  clear hW
  go_enter Tryd.func21, Tryd.ntmps21
  go_wp2_with fail
  refine (so_again HX.out).mono ?_
  rintro e w6 ⟨rfl, hX6⟩
  have HX6 := Lib.hid hX6
  have c22 : w6.cell? ⟨ob, 22, none⟩ = some (.int .i64 0) := (so_cell hX6 22 (by omega)).1
  clear hX6 HX
  go_wp2_with fail
  go_region_law
    (first | (go_simp
              go_at_call 33
              refine (skfs_walk _).mono ?_
              rintro e w7 ⟨rfl, hk⟩
              have HK := Lib.hid hk
              have d22 := hk.cell c22 (by simp)
              clear hk
              unfold stepFs)
           | (go_simp
              go_at_call 37
              refine (HW.out _ ((HX6.out.quiet ((Kept.refl _ _).drew)).quiet HK.out)).mono ?_
              rintro e w8 ⟨r, rfl, hF⟩
              have HFF := Lib.hid hF
              clear hF))
  all_goals (
    go_wp2_with fail
    go_ret
    exact ⟨r, rfl, HFF.out⟩)
end Go.Proofs.YtpckpgdkfimapaaDoor
