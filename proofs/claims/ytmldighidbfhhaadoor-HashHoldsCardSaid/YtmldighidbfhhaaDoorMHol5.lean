/- The walks of an Insert's later steps.
The walks of found and last, whatever stands there.
The walks of last, whatever is asked; of Step, at its beginning and on its way.
The walk of a step that comes too late; a step, whatever is next.
A step of an operation, told plainly; its walk, whatever is next.
The plain law of a hash table: chains, and what an operation's step does to them. Nothing is claimed of a program here. -/
import Derived.Test.YtmldighidbfhhaaDoorMHol4
namespace Go.Proofs.YtmldighidbfhhaaDoor
open Go Go.RowKit
set_option linter.unusedVariables false

variable {o : List Nat} {w0 w : World} {b : Nat} {x : HtIx} {T : AHt} {ob : Nat} {tb : Option Addr} {q : AHop}

set_option maxHeartbeats 8000000 in
set_option maxRecDepth 100000 in
/-- An entry is laid ahead of what its bucket had. -/
theorem step_lay (h : Has o w0 w (HtOp b x T ob q)) (hr : HtRep x.S x.C T) (hk : keyB q.key = true) (hB : 0 < T.nB) (hB9 : T.nB ≤ 256)
    (hx : q.next = 2) (m : Nat) (u : Int) (hw : q.own = (m : Int) + 1) (hm : m < T.nE) (hu : T.at_ (.next m) = some u) :
    Calls Tryd.prog 21 #[.pointer (some ⟨ob, 0, none⟩)] w fun e w' => e = .returned (.bool false) ∧ Has o w0 w' (HtOp b { x with S := x.S.step.put (x.C.e m) q.head } (T.step.set (.next m) q.head) ob { q with next := 3 }) := by
  obtain ⟨c0, c1, c2, c3, c4, c5, c6, c7, zf⟩ := ho_cells h
  obtain ⟨f0, f1, f2⟩ := ho_fields h
  obtain ⟨hkk, hkb⟩ := bk_eq T q.key hB
  obtain ⟨_, ht, _, _⟩ := ho_tab h
  obtain ⟨g, cap, hhv, f3⟩ := HtP.headCell ht hkb
  obtain ⟨ge, ecap, hev⟩ := HtP.entSlice ht (by omega)
  obtain ⟨_, _, f4, hsm⟩ := HtP.entCells ht hm hev
  rw [hx] at c4
  rw [hw] at c7
  rw [hhv] at f1
  rw [hev] at f2
  have HBK := Lib.hid (fun (W : World) (hW : Has o w0 W (HtOp b x T ob q)) => ho_bucket hW hk hB hB9)
  have HST := Lib.hid (fun (W : World) (hW : Has o w0 W (HtOp b x T ob q)) => ho_store hW hr (.next m) u q.head hu)
  have h9 : T.nE ≤ 9223372036854775807 := Nat.le_trans hsm (by decide)
  have HAT := Lib.hid (fun (W : World) => at_walk W ge T.nE ecap m hm h9)
  have HX := Lib.hid h
  have hb : 0 ≤ (T.bk q.key : Int) ∧ (T.bk q.key : Int) < (T.nB : Int) := by omega
  have HEV := Lib.hid hev
  have HW := Lib.hid hw
  generalize hkv : T.bk q.key = k at *
  clear h hr ht zf hhv hkk hkv hx hk hw hu hev
  go_enter Tryd.func21, Tryd.ntmps21
  go_wp2_with fail
  go_step3
  go_wp2_with fail
  go_region_held (fun w' => w'.cell? ⟨ob, 0, none⟩ = some (.pointer (some ⟨b, 0, none⟩)) ∧ w'.cell? ⟨ob, 1, none⟩ = some (.string q.key) ∧ w'.cell? ⟨b, 0, none⟩ = some (.pointer (some ⟨T.ab, 0, none⟩)) ∧ w'.cell? ⟨b, 1, none⟩ = some (.slice (some ⟨g, 0, none⟩) T.nB cap) ∧ w'.cell? ⟨g, k, none⟩ = some (.int .i64 (x.C.h k)))
    (first | exact ⟨c0, c1, f0, f1, f3⟩ | exact ⟨d0, d1, d2, d3, d4⟩ | go_keep)
    (first | (go_at_call 9
              refine (HBK.out _ (HX.out.quiet ((Kept.refl _ _).drew))).mono ?_
              rintro e w4 ⟨rfl, hk4⟩
              have d0 := hk4.cell (b := ob) (i := 0) c0 (by simp)
              have d1 := hk4.cell (b := ob) (i := 1) c1 (by simp)
              have d2 := hk4.cell (b := b) (i := 0) f0 (by simp)
              have d3 := hk4.cell (b := b) (i := 1) f1 (by simp)
              have d4 := hk4.cell (b := g) (i := k) f3 (by simp)
              have e2 := hk4.cell (b := b) (i := 2) f2 (by simp)
              have e4 := hk4.cell (b := ob) (i := 4) c4 (by simp)
              have e5 := hk4.cell (b := ob) (i := 5) c5 (by simp)
              have e7 := hk4.cell (b := ob) (i := 7) c7 (by simp)
              have e8 := hk4.cell (b := ge) (i := m * 3 + 2) f4 (by simp)
              have HX4 := Lib.hid ((HX.out.quiet ((Kept.refl _ _).drew)).quiet hk4)
              clear hk4))
  go_wp2_with fail
  go_region_held3 (fun w' => w'.cell? ⟨ob, 0, none⟩ = some (.pointer (some ⟨b, 0, none⟩)) ∧ w'.cell? ⟨b, 2, none⟩ = some (.slice (some ⟨ge, 0, none⟩) T.nE ecap) ∧ w'.cell? ⟨ob, 7, none⟩ = some (.int .u64 ((m : Int) + 1)) ∧ w'.cell? ⟨ob, 5, none⟩ = some (.int .u64 q.head) ∧ w'.cell? ⟨ge, m * 3 + 2, none⟩ = some (.int .i64 (x.C.e m)))
    (first | exact ⟨d0, e2, e7, e5, e8⟩ | exact ⟨i0, i2', i7, i5, i8⟩ | go_keep)
    (first | (go_at_call 29
              refine (HAT.out _).mono ?_
              rintro e w5 ⟨rfl, rfl⟩)
           | (go_at_call 34
              refine (HST.out _ (HX4.out.quiet ((Kept.refl _ _).drew))).mono ?_
              rintro e w5 ⟨rfl, hX5⟩
              obtain ⟨i0, _, _, _, _, i5, _, i7, zf5⟩ := ho_cells hX5
              obtain ⟨_, _, i2⟩ := ho_fields hX5
              obtain ⟨_, ht5, _, _⟩ := ho_tab hX5
              obtain ⟨_, _, i8, _⟩ := HtP.entCells ht5 (i := m) (by rw [AHt.nE_set]; exact hm) (g := ge) (cap := ecap) (by rw [AHt.nE_set]; exact HEV.out)
              have i2' : w5.cell? ⟨b, 2, none⟩ = some (.slice (some ⟨ge, 0, none⟩) T.nE ecap) := by rw [← HEV.out]; exact i2
              rw [HW.out] at i7
              have j4 := zf5 4 (by omega)
              have HX6 := Lib.hid (ho_next hX5 3)
              have i4 := (ho_cells hX5).2.2.2.2.1
              clear hX5 ht5 zf5))
  all_goals (
    go_wp2_with fail
    rw [Exit.noGoto_ret]
    go_ret
    exact ⟨rfl, HX6.out⟩)
set_option maxHeartbeats 8000000 in
set_option maxRecDepth 100000 in
/-- The bucket is swapped: it has what it had. -/
theorem step_swap (h : Has o w0 w (HtOp b x T ob q)) (hr : HtRep x.S x.C T) (hk : keyB q.key = true) (hB : 0 < T.nB) (hB9 : T.nB ≤ 256)
    (hx : q.next = 3) (hh : T.H (T.bk q.key) = q.head) :
    Calls Tryd.prog 21 #[.pointer (some ⟨ob, 0, none⟩)] w fun e w' => e = .returned (.bool true) ∧ Has o w0 w' (HtOp b { x with S := x.S.step.put (x.C.h (T.bk q.key)) q.own } (T.step.set (.head (T.bk q.key)) q.own) ob (q.ends q.ref false 0)) := by
  obtain ⟨c0, c1, c2, c3, c4, c5, c6, c7, zf⟩ := ho_cells h
  obtain ⟨f0, f1, f2⟩ := ho_fields h
  obtain ⟨hkk, hkb⟩ := bk_eq T q.key hB
  obtain ⟨_, ht, _, _⟩ := ho_tab h
  obtain ⟨g, cap, hhv, f3⟩ := HtP.headCell ht hkb
  rw [hx] at c4
  rw [hhv] at f1
  have HBK := Lib.hid (fun (W : World) (hW : Has o w0 W (HtOp b x T ob q)) => ho_bucket hW hk hB hB9)
  have HST := Lib.hid (fun (W : World) (hW : Has o w0 W (HtOp b x T ob q)) => ho_cas hW hr (.head (T.bk q.key)) q.head q.own (by rw [at_head hkb, hh]))
  have HX := Lib.hid h
  have hb : 0 ≤ (T.bk q.key : Int) ∧ (T.bk q.key : Int) < (T.nB : Int) := by omega
  generalize hkv : T.bk q.key = k at *
  clear h hr ht zf hhv hkk hkv hx hk hh
  go_enter Tryd.func21, Tryd.ntmps21
  go_wp2_with fail
  go_step3
  go_wp2_with fail
  go_region_held (fun w' => w'.cell? ⟨ob, 0, none⟩ = some (.pointer (some ⟨b, 0, none⟩)) ∧ w'.cell? ⟨ob, 1, none⟩ = some (.string q.key) ∧ w'.cell? ⟨b, 0, none⟩ = some (.pointer (some ⟨T.ab, 0, none⟩)) ∧ w'.cell? ⟨b, 1, none⟩ = some (.slice (some ⟨g, 0, none⟩) T.nB cap) ∧ w'.cell? ⟨g, k, none⟩ = some (.int .i64 (x.C.h k)))
    (first | exact ⟨c0, c1, f0, f1, f3⟩ | exact ⟨d0, d1, d2, d3, d4⟩ | go_keep)
    (first | (go_at_call 9
              refine (HBK.out _ (HX.out.quiet ((Kept.refl _ _).drew))).mono ?_
              rintro e w4 ⟨rfl, hk4⟩
              have d0 := hk4.cell (b := ob) (i := 0) c0 (by simp)
              have d1 := hk4.cell (b := ob) (i := 1) c1 (by simp)
              have d2 := hk4.cell (b := b) (i := 0) f0 (by simp)
              have d3 := hk4.cell (b := b) (i := 1) f1 (by simp)
              have d4 := hk4.cell (b := g) (i := k) f3 (by simp)
              have e2 := hk4.cell (b := ob) (i := 2) c2 (by simp)
              have e4 := hk4.cell (b := ob) (i := 4) c4 (by simp)
              have e5 := hk4.cell (b := ob) (i := 5) c5 (by simp)
              have e7 := hk4.cell (b := ob) (i := 7) c7 (by simp)
              have HX4 := Lib.hid ((HX.out.quiet ((Kept.refl _ _).drew)).quiet hk4)
              clear hk4))
  go_wp2_with fail
  go_region_held3 (fun w' => w'.cell? ⟨ob, 5, none⟩ = some (.int .u64 q.head) ∧ w'.cell? ⟨ob, 7, none⟩ = some (.int .u64 q.own))
    (first | exact ⟨e5, e7⟩ | exact ⟨i5, i7⟩ | go_keep)
    (first | (go_at_call 35
              refine (HST.out _ (HX4.out.quiet ((Kept.refl _ _).drew))).mono ?_
              rintro e w5 ⟨rfl, hX5⟩
              obtain ⟨i0, _, i2, _, i4, i5, _, i7, _⟩ := ho_cells hX5
              have HE := Lib.hid (ho_ends hX5 q.ref false 0)
              clear hX5))
  all_goals (
    go_wp2_with fail
    refine HE.out.mono ?_
    rintro e w6 ⟨rfl, hX6⟩
    have HX6 := Lib.hid hX6
    clear hX6
    go_wp2_with fail
    rw [Exit.noGoto_ret]
    go_ret
    exact ⟨rfl, HX6.out⟩)
end Go.Proofs.YtmldighidbfhhaaDoor
namespace Go.Proofs.YtmldighidbfhhaaDoor
open Go Go.RowKit
set_option linter.unusedVariables false

variable {o : List Nat} {w0 w : World} {b : Nat} {x : HtIx} {T : AHt} {ob : Nat} {tb : Option Addr} {q : AHop}

theorem at_next {i : Nat} (hi : i < T.nE) (hg : (T.E i).gone = false) : T.at_ (.next i) = some (T.E i).nxt := by
  show (if i < T.nE ∧ (T.E i).gone = false then some (T.E i).nxt else none) = _
  rw [if_pos ⟨hi, hg⟩]

theorem str_ne {a b : ByteArray} (h : a ≠ b) : (a.toList == b.toList) = false := by
  rw [beq_eq_false_iff_ne]
  intro e
  rw [ByteArray.toList_eq, ByteArray.toList_eq] at e
  exact h (Go.WideShapes.bytes_inj e)
theorem str_same (a : ByteArray) : (a.toList == a.toList) = true := by simp

set_option maxHeartbeats 2000000 in
set_option maxRecDepth 100000 in
/-- An entry that is another key's. -/
theorem found_no (h : Has o w0 w (HtOp b x T ob q)) (m : Nat) (hm : m < T.nE) (hk : (T.E m).key ≠ q.key) :
    Calls Tryd.prog 37 #[.pointer (some ⟨ob, 0, none⟩), .int .u64 ((m : Int) + 1)] w fun e w' => e = .returned (.bool false) ∧ Kept [] w w' := by
  obtain ⟨c0, c1, c2, c3, c4, c5, c6, c7, zf⟩ := ho_cells h
  obtain ⟨f0, f1, f2⟩ := ho_fields h
  obtain ⟨_, ht, _, _⟩ := ho_tab h
  obtain ⟨ge, ecap, hev⟩ := HtP.entSlice ht (by omega)
  obtain ⟨f4, _, _, hsm⟩ := HtP.entCells ht hm hev
  rw [hev] at f2
  have h9 : T.nE ≤ 9223372036854775807 := Nat.le_trans hsm (by decide)
  have HAT := Lib.hid (fun (W : World) => at_walk W ge T.nE ecap m hm h9)
  have d1 : decide ((m : Int) + 1 = 0) = false := by simp; omega
  have d1' : ((m : Int) + 1 == 0) = false := by simp; omega
  generalize (T.E m).key = key at *
  have d2 := str_ne hk
  clear h ht zf hev hk
  go_enter Tryd.func37, Tryd.ntmps37
  go_wp2_with fail
  go_quiet (first | (go_at_call 29; exact Calls.quiet_of_same (HAT.out _)))
  go_wp2_with fail
  go_ret
  exact ⟨rfl, (Kept.refl [] _).drewN _⟩

set_option maxHeartbeats 4000000 in
set_option maxRecDepth 100000 in
/-- An entry that is the key's; no entry of one's own. -/
theorem found_yes (h : Has o w0 w (HtOp b x T ob q)) (hr : HtRep x.S x.C T) (m : Nat) (hm : m < T.nE) (hk : (T.E m).key = q.key) (hw : q.own = 0) :
    Calls Tryd.prog 37 #[.pointer (some ⟨ob, 0, none⟩), .int .u64 ((m : Int) + 1)] w fun e w' => e = .returned (.bool true) ∧ ∃ x', HtRep x'.S x'.C T ∧ Has o w0 w' (HtOp b x' T ob (q.ends (T.E m).ref true 0)) := by
  obtain ⟨c0, c1, c2, c3, c4, c5, c6, c7, zf⟩ := ho_cells h
  obtain ⟨f0, f1, f2⟩ := ho_fields h
  obtain ⟨_, ht, _, _⟩ := ho_tab h
  obtain ⟨ge, ecap, hev⟩ := HtP.entSlice ht (by omega)
  obtain ⟨f4, f5, _, hsm⟩ := HtP.entCells ht hm hev
  rw [hev] at f2
  rw [hw] at c7
  rw [hk] at f4
  have h9 : T.nE ≤ 9223372036854775807 := Nat.le_trans hsm (by decide)
  have HAT := Lib.hid (fun (W : World) => at_walk W ge T.nE ecap m hm h9)
  have HE := Lib.hid (fun (W : World) (hW : Has o w0 W (HtOp b x T ob q)) => ho_ends hW (T.E m).ref true 0)
  have HX := Lib.hid h
  have HR := Lib.hid hr
  have d1 : decide ((m : Int) + 1 = 0) = false := by simp; omega
  have d1' : ((m : Int) + 1 == 0) = false := by simp; omega
  have d2 := str_same q.key
  generalize (T.E m).ref = rf at *
  clear h ht zf hev hk hw hr
  go_enter Tryd.func37, Tryd.ntmps37
  go_wp2_with fail
  go_quiet (first | (go_at_call 29; exact Calls.quiet_of_same (HAT.out _)))
  go_wp2_with fail
  refine (HAT.out _).mono ?_
  rintro e w5 ⟨rfl, rfl⟩
  have HE5 := Lib.hid (HE.out _ (HX.out.quiet ((Kept.refl [] _).drewN nq)))
  clear HX HE
  go_wp2_with fail
  refine HE5.out.mono ?_
  rintro e w6 ⟨rfl, hX⟩
  have HX6 := Lib.hid hX
  clear hX
  go_wp2_with fail
  go_ret
  exact ⟨rfl, x, HR.out, HX6.out⟩

theorem ho_free (h : Has o w0 w (HtOp b x T ob q)) (hr : HtRep x.S x.C T) (i : Nat) (u : Int) (hl : T.at_ (.next i) = some u) :
    Calls Tryd.prog 32 #[.pointer (some ⟨T.ab, 0, none⟩), .int .i64 (x.C.e i)] w fun e w' => e = .returned (.int .i64 0) ∧ Has o w0 w' (HtOp b { x with S := x.S.drop (x.C.e i) } (T.free i) ob q) := by
  obtain ⟨o1, h1, _, b1⟩ := ho_tab h
  refine (ht_free h1 hr i u hl).mono ?_
  rintro e w' ⟨rfl, h'⟩
  exact ⟨rfl, b1 _ _ _ h'⟩

set_option maxHeartbeats 8000000 in
set_option maxRecDepth 100000 in
/-- An entry that is the key's: one's own is given back. -/
theorem found_own (h : Has o w0 w (HtOp b x T ob q)) (hr : HtRep x.S x.C T) (m : Nat) (hm : m < T.nE) (hk : (T.E m).key = q.key) (i : Nat) (hi : i < T.nE) (hg : (T.E i).gone = false) (hw : q.own = (i : Int) + 1) :
    Calls Tryd.prog 37 #[.pointer (some ⟨ob, 0, none⟩), .int .u64 ((m : Int) + 1)] w fun e w' => e = .returned (.bool true) ∧ ∃ x', HtRep x'.S x'.C (T.free i) ∧ Has o w0 w' (HtOp b x' (T.free i) ob (q.ends (T.E m).ref true 0)) := by
  obtain ⟨c0, c1, c2, c3, c4, c5, c6, c7, zf⟩ := ho_cells h
  obtain ⟨f0, f1, f2⟩ := ho_fields h
  obtain ⟨_, ht, _, _⟩ := ho_tab h
  obtain ⟨ge, ecap, hev⟩ := HtP.entSlice ht (by omega)
  obtain ⟨f4, f5, _, hsm⟩ := HtP.entCells ht hm hev
  obtain ⟨_, _, f6, _⟩ := HtP.entCells ht hi hev
  rw [hev] at f2
  rw [hw] at c7
  rw [hk] at f4
  have h9 : T.nE ≤ 9223372036854775807 := Nat.le_trans hsm (by decide)
  have HAT := Lib.hid (fun (W : World) => at_walk W ge T.nE ecap m hm h9)
  have HAI := Lib.hid (fun (W : World) => at_walk W ge T.nE ecap i hi h9)
  have HFR := Lib.hid (fun (W : World) (hW : Has o w0 W (HtOp b x T ob q)) => ho_free hW hr i _ (at_next hi hg))
  have hER : ((T.free i).E m).ref = (T.E m).ref := by show ((if m = i then _ else T.E m) : AEnt).ref = _; split <;> simp_all
  have HE := Lib.hid (fun (W : World) (hW : Has o w0 W (HtOp b { x with S := x.S.drop (x.C.e i) } (T.free i) ob q)) => ho_ends hW (T.E m).ref true 0)
  have HX := Lib.hid h
  have HR := Lib.hid (hr.free (at_next hi hg))
  have HEV := Lib.hid hev
  have HER := Lib.hid hER
  have HM := Lib.hid hm
  have d1 : decide ((m : Int) + 1 = 0) = false := by simp; omega
  have d1' : ((m : Int) + 1 == 0) = false := by simp; omega
  have d3 : decide ((i : Int) + 1 > 0) = true := by simp
  have d3' : decide (0 < (i : Int) + 1) = true := by simp
  have d2 := str_same q.key
  obtain ⟨rf, hrf⟩ : ∃ rf, (T.E m).ref = rf := ⟨_, rfl⟩
  rw [hrf] at f5 HE HER ⊢
  clear h ht zf hev hk hw hr hER hrf hg
  go_enter Tryd.func37, Tryd.ntmps37
  go_wp2_with fail
  go_quiet (first | (go_at_call 29; exact Calls.quiet_of_same (HAT.out _)))
  go_wp2_with fail
  have k2 : Kept [] w (w.drewN nq) := (Kept.refl [] _).drewN nq
  have e0 := k2.cell c0 (by simp)
  have e7 := k2.cell c7 (by simp)
  have e2 := k2.cell f2 (by simp)
  have ea := k2.cell f0 (by simp)
  have e6 := k2.cell f6 (by simp)
  have HX2 := Lib.hid (HX.out.quiet k2)
  generalize w.drewN nq = w2 at *
  clear HX k2 c0 c1 c2 c3 c4 c5 c6 c7 f0 f1 f2 f4 f5 f6
  go_quiet (first | (go_at_call 29; exact Calls.quiet_of_same (HAI.out _)))
  go_wp2_with fail
  have k3 : Kept [] w2 (w2.drewN nq) := (Kept.refl [] _).drewN nq
  have c0 := k3.cell e0 (by simp)
  have ca := k3.cell ea (by simp)
  have c6 := k3.cell e6 (by simp)
  have HX3 := Lib.hid (HX2.out.quiet k3)
  generalize w2.drewN nq = w3 at *
  clear HX2 k3 e0 e7 e2 ea e6
  go_region_held3 (fun w' => w'.cell? ⟨ob, 0, none⟩ = some (.pointer (some ⟨b, 0, none⟩)) ∧ w'.cell? ⟨b, 0, none⟩ = some (.pointer (some ⟨T.ab, 0, none⟩)) ∧ w'.cell? ⟨ge, i * 3 + 2, none⟩ = some (.int .i64 (x.C.e i)))
    (first | exact ⟨c0, ca, c6⟩ | exact ⟨i0, ia, i6⟩ | go_keep)
    (first | (go_at_call 32
              refine (HFR.out _ (HX3.out.quiet ((Kept.refl _ _).drew))).mono ?_
              rintro e w5 ⟨rfl, hX5⟩
              obtain ⟨i0, _⟩ := ho_cells hX5
              obtain ⟨ia, _, i2⟩ := ho_fields hX5
              obtain ⟨_, ht5, _, _⟩ := ho_tab hX5
              obtain ⟨_, i5, i6, _⟩ := HtP.entCells ht5 (i := m) HM.out (g := ge) (cap := ecap) HEV.out
              obtain ⟨_, _, i6, _⟩ := HtP.entCells ht5 (i := i) hi (g := ge) (cap := ecap) HEV.out
              rw [HER.out] at i5
              have i2' : w5.cell? ⟨b, 2, none⟩ = some (.slice (some ⟨ge, 0, none⟩) T.nE ecap) := by rw [← HEV.out]; exact i2
              have HX5 := Lib.hid hX5
              clear hX5 ht5 i2))
  all_goals (
    go_wp2_with fail
    refine (HAT.out _).mono ?_
    rintro e w6 ⟨rfl, rfl⟩
    have HE5 := Lib.hid (HE.out _ HX5.out)
    go_wp2_with fail
    refine HE5.out.mono ?_
    rintro e w7 ⟨rfl, hX⟩
    have HX7 := Lib.hid hX
    clear hX
    go_wp2_with fail
    go_ret
    exact ⟨rfl, { x with S := x.S.drop (x.C.e i) }, HR.out, HX7.out⟩)
end Go.Proofs.YtmldighidbfhhaaDoor
namespace Go.Proofs.YtmldighidbfhhaaDoor
open Go Go.RowKit
set_option linter.unusedVariables false

variable {o : List Nat} {w0 w : World} {b : Nat} {x : HtIx} {T : AHt} {ob : Nat} {tb : Option Addr} {q : AHop}

set_option maxHeartbeats 1000000 in
set_option maxRecDepth 100000 in
/-- A Lookup that has come to a chain's end. -/
theorem last_look (h : Has o w0 w (HtOp b x T ob q)) (hp : q.puts = false) :
    Calls Tryd.prog 38 #[.pointer (some ⟨ob, 0, none⟩)] w fun e w' => e = .returned (.bool true) ∧ Has o w0 w' (HtOp b x T ob (q.ends 0 false 0)) := by
  obtain ⟨c0, c1, c2, c3, c4, c5, c6, c7, zf⟩ := ho_cells h
  rw [hp] at c3
  have HE := Lib.hid (ho_ends h 0 false 0)
  clear h zf
  go_enter Tryd.func38, Tryd.ntmps38
  go_wp2_with fail
  refine HE.out.mono ?_
  rintro e w2 ⟨rfl, hX⟩
  have HX := Lib.hid hX
  clear hX
  go_wp2_with fail
  go_ret
  exact ⟨rfl, HX.out⟩

set_option maxHeartbeats 1000000 in
set_option maxRecDepth 100000 in
/-- An Insert that has its entry has come to a chain's end. -/
theorem last_own (h : Has o w0 w (HtOp b x T ob q)) (hp : q.puts = true) (hw : 0 < q.own) :
    Calls Tryd.prog 38 #[.pointer (some ⟨ob, 0, none⟩)] w fun e w' => e = .returned (.bool false) ∧ Has o w0 w' (HtOp b x T ob { q with next := 2 }) := by
  obtain ⟨c0, c1, c2, c3, c4, c5, c6, c7, zf⟩ := ho_cells h
  rw [hp] at c3
  have z4 := zf 4 (by omega)
  have HX := Lib.hid (ho_next h 2)
  have d1 : decide (q.own = 0) = false := by simp; omega
  have d1' : (q.own == 0) = false := by simp; omega
  clear h zf
  go_enter Tryd.func38, Tryd.ntmps38
  go_wp2_with fail
  go_ret
  exact ⟨rfl, HX.out⟩

/-- What a look at where one stands comes to: it is found; a chain's end; it goes on. -/
def LookAt (o : List Nat) (w0 : World) (b : Nat) (x : HtIx) (T : AHt) (ob : Nat) (q : AHop) (T' : AHt) (q' : AHop) (r : Bool) : Prop :=
  (r = true ∧ ∀ W, Has o w0 W (HtOp b x T ob q) → Calls Tryd.prog 37 #[.pointer (some ⟨ob, 0, none⟩), .int .u64 q.cur] W fun e w' => e = .returned (.bool true) ∧ ∃ x' : HtIx, HtRep x'.S x'.C T' ∧ Has o w0 w' (HtOp b x' T' ob q')) ∨
  (q.cur = 0 ∧ (∀ W, Has o w0 W (HtOp b x T ob q) → Calls Tryd.prog 38 #[.pointer (some ⟨ob, 0, none⟩)] W fun e w' => e = .returned (.bool r) ∧ ∃ x' : HtIx, HtRep x'.S x'.C T' ∧ Has o w0 w' (HtOp b x' T' ob q'))) ∨
  (0 < q.cur ∧ r = false ∧ T' = T ∧ q' = { q with next := 1 } ∧ HtRep x.S x.C T ∧ ∀ W, Has o w0 W (HtOp b x T ob q) → Calls Tryd.prog 37 #[.pointer (some ⟨ob, 0, none⟩), .int .u64 q.cur] W fun e w' => e = .returned (.bool false) ∧ Kept [] W w')

set_option maxHeartbeats 8000000 in
set_option maxRecDepth 100000 in
/-- The first step of a search. -/
theorem step_begin (h : Has o w0 w (HtOp b x T ob q)) (hr : HtRep x.S x.C T) (hk : keyB q.key = true) (hB : 0 < T.nB) (hB9 : T.nB ≤ 256)
    (hx : q.next = 0) (T' : AHt) (q' : AHop) (r : Bool) (hl : LookAt o w0 b { x with S := x.S.step } T.step ob { q with head := T.H (T.bk q.key), cur := T.H (T.bk q.key) } T' q' r) :
    Calls Tryd.prog 21 #[.pointer (some ⟨ob, 0, none⟩)] w fun e w' => e = .returned (.bool r) ∧ ∃ x' : HtIx, HtRep x'.S x'.C T' ∧ Has o w0 w' (HtOp b x' T' ob q') := by
  obtain ⟨c0, c1, c2, c3, c4, c5, c6, c7, zf⟩ := ho_cells h
  obtain ⟨f0, f1, f2⟩ := ho_fields h
  obtain ⟨hkk, hkb⟩ := bk_eq T q.key hB
  obtain ⟨_, ht, _, _⟩ := ho_tab h
  obtain ⟨g, cap, hhv, f3⟩ := HtP.headCell ht hkb
  rw [hx] at c4
  rw [hhv] at f1
  have HRF := Lib.hid (refused_no h hk)
  have HBK := Lib.hid (fun (W : World) (hW : Has o w0 W (HtOp b x T ob q)) => ho_bucket hW hk hB hB9)
  obtain ⟨hv, hhv9⟩ : ∃ hv, T.H (T.bk q.key) = hv := ⟨_, rfl⟩
  have hl0 : T.at_ (.head (T.bk q.key)) = some hv := by rw [at_head hkb, hhv9]
  have HLD := Lib.hid (fun (W : World) (hW : Has o w0 W (HtOp b x T ob q)) => ho_load hW hr _ hv hl0)
  have HX := Lib.hid h
  have hb : 0 ≤ (T.bk q.key : Int) ∧ (T.bk q.key : Int) < (T.nB : Int) := by omega
  rw [hhv9] at hl
  have HLK := Lib.hid hl
  have HNX := Lib.hid hx
  generalize hkv : T.bk q.key = k at *
  clear h hr ht hl0 zf hhv hkk hkv hx hk hl hhv9
  go_enter Tryd.func21, Tryd.ntmps21
  go_wp2_with fail
  refine wp_scope_ahead 0 rfl ?_
  go_wp2_with fail
  refine HRF.out.mono ?_
  rintro e w1 ⟨rfl, rfl⟩
  go_wp2_with fail
  go_region_held (fun w' => w'.cell? ⟨ob, 0, none⟩ = some (.pointer (some ⟨b, 0, none⟩)) ∧ w'.cell? ⟨ob, 1, none⟩ = some (.string q.key) ∧ w'.cell? ⟨b, 0, none⟩ = some (.pointer (some ⟨T.ab, 0, none⟩)) ∧ w'.cell? ⟨b, 1, none⟩ = some (.slice (some ⟨g, 0, none⟩) T.nB cap) ∧ w'.cell? ⟨g, k, none⟩ = some (.int .i64 (x.C.h k)))
    (first | exact ⟨c0, c1, f0, f1, f3⟩ | exact ⟨d0, d1, d2, d3, d4⟩ | go_keep)
    (first | (go_at_call 9
              refine (HBK.out _ (HX.out.quiet ((Kept.refl _ _).drew))).mono ?_
              rintro e w4 ⟨rfl, hk4⟩
              have d0 := hk4.cell (b := ob) (i := 0) c0 (by simp)
              have d1 := hk4.cell (b := ob) (i := 1) c1 (by simp)
              have d2 := hk4.cell (b := b) (i := 0) f0 (by simp)
              have d3 := hk4.cell (b := b) (i := 1) f1 (by simp)
              have d4 := hk4.cell (b := g) (i := k) f3 (by simp)
              have HX4 := Lib.hid ((HX.out.quiet ((Kept.refl _ _).drew)).quiet hk4)
              clear hk4))
  obtain ⟨_, _, _, _, d5, _, _, _, zf4⟩ := ho_cells HX4.out
  rw [HNX.out] at d5
  have z5 := zf4 5 (by omega)
  have HL4 := Lib.hid (HLD.out _ HX4.out)
  clear zf4
  go_wp2_with fail
  refine HL4.out.mono ?_
  rintro e w5 ⟨rfl, hX5⟩
  obtain ⟨_, _, _, _, _, _, _, _, zf5⟩ := ho_cells hX5
  have y5 := zf5 5 (by omega)
  have HX6 := Lib.hid (ho_head hX5 hv)
  obtain ⟨_, _, _, _, _, g5, g6, _, zf6⟩ := ho_cells HX6.out
  have y6 := zf6 6 (by omega)
  have HX7 := Lib.hid (ho_cur HX6.out hv)
  obtain ⟨_, _, _, _, h4, _, h6, _, zf7⟩ := ho_cells HX7.out
  have y4 := zf7 4 (by omega)
  clear hX5 zf5 zf6 zf7
  rcases HLK.out with ⟨rfl, hF⟩ | ⟨hc, hL⟩ | ⟨hc, rfl, rfl, rfl, hr5, hN⟩
  · have HF := Lib.hid (hF _ HX7.out)
    clear hF
    go_wp2_with fail
    go_step3
    refine And.intro rfl ?_
    show Code.wp _ _ _ _ _
    go_wp2_with fail
    refine HF.out.mono ?_
    rintro e w7 ⟨rfl, x', hr', hX9⟩
    have HX9 := Lib.hid hX9
    have HR9 := Lib.hid hr'
    clear hX9 hr'
    go_wp2_with fail
    rw [Exit.jump_ret]
    go_ret
    exact ⟨rfl, x', HR9.out, HX9.out⟩
  · obtain rfl : hv = 0 := hc
    have HF := Lib.hid (found_none ((w5.setCell ⟨ob, 5, none⟩ (.int .u64 0)).setCell ⟨ob, 6, none⟩ (.int .u64 0)) ob)
    have HLL := Lib.hid hL
    clear hL
    go_wp2_with fail
    go_step3
    refine And.intro rfl ?_
    show Code.wp _ _ _ _ _
    go_wp2_with fail
    refine HF.out.mono ?_
    rintro e w7 ⟨rfl, hk7⟩
    have HX8 := Lib.hid (HX7.out.quiet hk7)
    obtain ⟨_, _, _, i3, _, _, i6, i7, _⟩ := ho_cells HX8.out
    have HLA := Lib.hid (HLL.out _ HX8.out)
    clear hk7
    go_wp2_with fail
    refine HLA.out.mono ?_
    rintro e w9 ⟨rfl, x', hr', hX9⟩
    have HX9 := Lib.hid hX9
    have HR9 := Lib.hid hr'
    clear hX9 hr'
    go_wp2_with fail
    rw [Exit.jump_ret]
    go_ret
    exact ⟨rfl, x', HR9.out, HX9.out⟩
  · have HF := Lib.hid (hN _ HX7.out)
    have hc' : 0 < hv := hc
    have d9 : decide (hv = 0) = false := by simp; omega
    have d9' : (hv == 0) = false := by simp; omega
    have HR5 := Lib.hid hr5
    clear hN hc hr5
    go_wp2_with fail
    go_step3
    refine And.intro rfl ?_
    show Code.wp _ _ _ _ _
    go_wp2_with fail
    refine HF.out.mono ?_
    rintro e w7 ⟨rfl, hk7⟩
    have HX8 := Lib.hid (HX7.out.quiet hk7)
    obtain ⟨_, _, _, i3, i4, _, i6, i7, zf8⟩ := ho_cells HX8.out
    have z8 := zf8 4 (by omega)
    have HX9 := Lib.hid (ho_next HX8.out 1)
    clear hk7 zf8
    go_wp2_with fail
    rw [Exit.jump_ret]
    go_ret
    exact ⟨rfl, { x with S := x.S.step }, HR5.out, HX9.out⟩

set_option maxHeartbeats 8000000 in
set_option maxRecDepth 100000 in
/-- A step along a chain. -/
theorem step_along (h : Has o w0 w (HtOp b x T ob q)) (hr : HtRep x.S x.C T) (hk : keyB q.key = true) (hB : 0 < T.nB) (hB9 : T.nB ≤ 256)
    (hx : q.next = 1) (m : Nat) (hw : q.cur = (m : Int) + 1) (hm : m < T.nE) (hg : (T.E m).gone = false) (T' : AHt) (q' : AHop) (r : Bool) (hl : LookAt o w0 b { x with S := x.S.step } T.step ob { q with cur := (T.E m).nxt } T' q' r) :
    Calls Tryd.prog 21 #[.pointer (some ⟨ob, 0, none⟩)] w fun e w' => e = .returned (.bool r) ∧ ∃ x' : HtIx, HtRep x'.S x'.C T' ∧ Has o w0 w' (HtOp b x' T' ob q') := by
  obtain ⟨c0, c1, c2, c3, c4, c5, c6, c7, zf⟩ := ho_cells h
  obtain ⟨f0, f1, f2⟩ := ho_fields h
  obtain ⟨hkk, hkb⟩ := bk_eq T q.key hB
  obtain ⟨_, ht, _, _⟩ := ho_tab h
  obtain ⟨g, cap, hhv, f3⟩ := HtP.headCell ht hkb
  obtain ⟨ge, ecap, hev⟩ := HtP.entSlice ht (by omega)
  obtain ⟨_, _, f4, hsm⟩ := HtP.entCells ht hm hev
  rw [hx] at c4
  rw [hw] at c6
  rw [hhv] at f1
  rw [hev] at f2
  have HBK := Lib.hid (fun (W : World) (hW : Has o w0 W (HtOp b x T ob q)) => ho_bucket hW hk hB hB9)
  obtain ⟨hv, hhv9⟩ : ∃ hv, (T.E m).nxt = hv := ⟨_, rfl⟩
  have hl0 : T.at_ (.next m) = some hv := by rw [at_next hm hg, hhv9]
  have HLD := Lib.hid (fun (W : World) (hW : Has o w0 W (HtOp b x T ob q)) => ho_load hW hr (.next m) hv hl0)
  have h9 : T.nE ≤ 9223372036854775807 := Nat.le_trans hsm (by decide)
  have HAT := Lib.hid (fun (W : World) => at_walk W ge T.nE ecap m hm h9)
  have HX := Lib.hid h
  have hb : 0 ≤ (T.bk q.key : Int) ∧ (T.bk q.key : Int) < (T.nB : Int) := by omega
  rw [hhv9] at hl
  have HLK := Lib.hid hl
  have HNX := Lib.hid hx
  have HEV := Lib.hid hev
  have HW := Lib.hid hw
  generalize hkv : T.bk q.key = k at *
  clear h hr ht hl0 zf hhv hkk hkv hx hk hl hhv9 hev hw hg
  go_enter Tryd.func21, Tryd.ntmps21
  go_wp2_with fail
  refine wp_scope_ahead 0 rfl ?_
  go_wp2_with fail
  go_region_held (fun w' => w'.cell? ⟨ob, 0, none⟩ = some (.pointer (some ⟨b, 0, none⟩)) ∧ w'.cell? ⟨ob, 1, none⟩ = some (.string q.key) ∧ w'.cell? ⟨b, 0, none⟩ = some (.pointer (some ⟨T.ab, 0, none⟩)) ∧ w'.cell? ⟨b, 1, none⟩ = some (.slice (some ⟨g, 0, none⟩) T.nB cap) ∧ w'.cell? ⟨g, k, none⟩ = some (.int .i64 (x.C.h k)))
    (first | exact ⟨c0, c1, f0, f1, f3⟩ | exact ⟨d0, d1, d2, d3, d4⟩ | go_keep)
    (first | (go_at_call 9
              refine (HBK.out _ (HX.out.quiet ((Kept.refl _ _).drew))).mono ?_
              rintro e w4 ⟨rfl, hk4⟩
              have d0 := hk4.cell (b := ob) (i := 0) c0 (by simp)
              have d1 := hk4.cell (b := ob) (i := 1) c1 (by simp)
              have d2 := hk4.cell (b := b) (i := 0) f0 (by simp)
              have d3 := hk4.cell (b := b) (i := 1) f1 (by simp)
              have d4 := hk4.cell (b := g) (i := k) f3 (by simp)
              have e2 := hk4.cell (b := b) (i := 2) f2 (by simp)
              have e4 := hk4.cell (b := ob) (i := 4) c4 (by simp)
              have e6 := hk4.cell (b := ob) (i := 6) c6 (by simp)
              have e8 := hk4.cell (b := ge) (i := m * 3 + 2) f4 (by simp)
              have HX4 := Lib.hid ((HX.out.quiet ((Kept.refl _ _).drew)).quiet hk4)
              clear hk4))
  go_wp2_with fail
  go_region_law
    (first | (go_simp
              go_at_call 29
              refine (HAT.out _).mono ?_
              rintro e w5 ⟨rfl, rfl⟩)
           | (go_simp
              go_at_call 28
              refine (HLD.out _ (HX4.out.quiet ((Kept.refl _ _).drew))).mono ?_
              rintro e w5 ⟨rfl, hX5⟩
              obtain ⟨i0, _, _, _, _, _, i6, _, zf5⟩ := ho_cells hX5
              obtain ⟨_, _, i2⟩ := ho_fields hX5
              obtain ⟨_, ht5, _, _⟩ := ho_tab hX5
              obtain ⟨_, _, i8, _⟩ := HtP.entCells ht5 (i := m) hm (g := ge) (cap := ecap) HEV.out
              have i2' : w5.cell? ⟨b, 2, none⟩ = some (.slice (some ⟨ge, 0, none⟩) T.nE ecap) := by rw [← HEV.out]; exact i2
              rw [HW.out] at i6
              have j6 := zf5 6 (by omega)
              have HX7 := Lib.hid (ho_cur hX5 hv)
              clear hX5 ht5 zf5))
  all_goals (
    go_wp2_with fail
    obtain ⟨_, _, _, _, h4, _, h6, _, zf7⟩ := ho_cells HX7.out
    have y4 := zf7 4 (by omega)
    clear zf7
    rcases HLK.out with ⟨rfl, hF⟩ | ⟨hc, hL⟩ | ⟨hc, rfl, rfl, rfl, hr5, hN⟩
    · have HF := Lib.hid (hF _ HX7.out)
      clear hF
      go_step3
      refine And.intro rfl ?_
      show Code.wp _ _ _ _ _
      go_wp2_with fail
      refine HF.out.mono ?_
      rintro e w7 ⟨rfl, x', hr', hX9⟩
      have HX9 := Lib.hid hX9
      have HR9 := Lib.hid hr'
      clear hX9 hr'
      go_wp2_with fail
      rw [Exit.jump_ret]
      go_ret
      exact ⟨rfl, x', HR9.out, HX9.out⟩
    · obtain rfl : hv = 0 := hc
      have HF := Lib.hid (found_none (w5.setCell ⟨ob, 6, none⟩ (.int .u64 0)) ob)
      have HLL := Lib.hid hL
      clear hL
      go_step3
      refine And.intro rfl ?_
      show Code.wp _ _ _ _ _
      go_wp2_with fail
      refine HF.out.mono ?_
      rintro e w7 ⟨rfl, hk7⟩
      have HX8 := Lib.hid (HX7.out.quiet hk7)
      obtain ⟨_, _, _, i3, _, _, i6, i7, _⟩ := ho_cells HX8.out
      have HLA := Lib.hid (HLL.out _ HX8.out)
      clear hk7
      go_wp2_with fail
      refine HLA.out.mono ?_
      rintro e w9 ⟨rfl, x', hr', hX9⟩
      have HX9 := Lib.hid hX9
      have HR9 := Lib.hid hr'
      clear hX9 hr'
      go_wp2_with fail
      rw [Exit.jump_ret]
      go_ret
      exact ⟨rfl, x', HR9.out, HX9.out⟩
    · have HF := Lib.hid (hN _ HX7.out)
      have hc' : 0 < hv := hc
      have d9 : decide (hv = 0) = false := by simp; omega
      have d9' : (hv == 0) = false := by simp; omega
      have HR5 := Lib.hid hr5
      clear hN hc hr5
      go_step3
      refine And.intro rfl ?_
      show Code.wp _ _ _ _ _
      go_wp2_with fail
      refine HF.out.mono ?_
      rintro e w7 ⟨rfl, hk7⟩
      have HX8 := Lib.hid (HX7.out.quiet hk7)
      obtain ⟨_, _, _, i3, i4, _, i6, i7, zf8⟩ := ho_cells HX8.out
      have z8 := zf8 4 (by omega)
      have HX9 := Lib.hid (ho_next HX8.out 1)
      clear hk7 zf8
      go_wp2_with fail
      rw [Exit.jump_ret]
      go_ret
      exact ⟨rfl, { x with S := x.S.step }, HR5.out, HX9.out⟩)
end Go.Proofs.YtmldighidbfhhaaDoor
namespace Go.Proofs.YtmldighidbfhhaaDoor
open Go Go.RowKit
set_option linter.unusedVariables false

variable {o : List Nat} {w0 w : World} {b : Nat} {x : HtIx} {T : AHt} {ob : Nat} {tb : Option Addr} {q : AHop}

theorem ht_cas_no (h : Has o w0 w (HtP b x T)) (hr : HtRep x.S x.C T) (l : HLoc) (u u' v : Int) (hl : T.at_ l = some u) (hu : u ≠ u') :
    Calls Tryd.prog 35 #[.pointer (some ⟨T.ab, 0, none⟩), .int .i64 (x.C.of l), .int .u64 u', .int .u64 v] w fun e w' => e = .returned (.tuple #[.bool false, .int .i64 0]) ∧ Has o w0 w' (HtP b { x with S := x.S.step } T.step) := by
  obtain ⟨o', hO, _, back⟩ := htp_arena h
  refine (own_cas_not hO _ u u' v (hr.rep.has l u hl) hu).mono ?_
  rintro e w' ⟨rfl, h'⟩
  exact ⟨rfl, back _ _ T.step rfl rfl h'⟩
theorem ho_cas_no (h : Has o w0 w (HtOp b x T ob q)) (hr : HtRep x.S x.C T) (l : HLoc) (u u' v : Int) (hl : T.at_ l = some u) (hu : u ≠ u') :
    Calls Tryd.prog 35 #[.pointer (some ⟨T.ab, 0, none⟩), .int .i64 (x.C.of l), .int .u64 u', .int .u64 v] w fun e w' => e = .returned (.tuple #[.bool false, .int .i64 0]) ∧ Has o w0 w' (HtOp b { x with S := x.S.step } T.step ob q) := by
  obtain ⟨o1, h1, _, b1⟩ := ho_tab h
  refine (ht_cas_no h1 hr l u u' v hl hu).mono ?_
  rintro e w' ⟨rfl, h'⟩
  exact ⟨rfl, b1 _ _ _ h'⟩

set_option maxHeartbeats 8000000 in
set_option maxRecDepth 100000 in
/-- The bucket has another number: all begins anew. -/
theorem step_lost (h : Has o w0 w (HtOp b x T ob q)) (hr : HtRep x.S x.C T) (hk : keyB q.key = true) (hB : 0 < T.nB) (hB9 : T.nB ≤ 256)
    (hx : q.next = 3) (hh : T.H (T.bk q.key) ≠ q.head) :
    Calls Tryd.prog 21 #[.pointer (some ⟨ob, 0, none⟩)] w fun e w' => e = .returned (.bool false) ∧ Has o w0 w' (HtOp b { x with S := x.S.step } T.step ob { q with next := 0 }) := by
  obtain ⟨c0, c1, c2, c3, c4, c5, c6, c7, zf⟩ := ho_cells h
  obtain ⟨f0, f1, f2⟩ := ho_fields h
  obtain ⟨hkk, hkb⟩ := bk_eq T q.key hB
  obtain ⟨_, ht, _, _⟩ := ho_tab h
  obtain ⟨g, cap, hhv, f3⟩ := HtP.headCell ht hkb
  rw [hx] at c4
  rw [hhv] at f1
  have HBK := Lib.hid (fun (W : World) (hW : Has o w0 W (HtOp b x T ob q)) => ho_bucket hW hk hB hB9)
  have HST := Lib.hid (fun (W : World) (hW : Has o w0 W (HtOp b x T ob q)) => ho_cas_no hW hr (.head (T.bk q.key)) (T.H (T.bk q.key)) q.head q.own (at_head hkb) hh)
  have HX := Lib.hid h
  have hb : 0 ≤ (T.bk q.key : Int) ∧ (T.bk q.key : Int) < (T.nB : Int) := by omega
  generalize hkv : T.bk q.key = k at *
  clear h hr ht zf hhv hkk hkv hx hk hh
  go_enter Tryd.func21, Tryd.ntmps21
  go_wp2_with fail
  go_step3
  go_wp2_with fail
  go_region_held (fun w' => w'.cell? ⟨ob, 0, none⟩ = some (.pointer (some ⟨b, 0, none⟩)) ∧ w'.cell? ⟨ob, 1, none⟩ = some (.string q.key) ∧ w'.cell? ⟨b, 0, none⟩ = some (.pointer (some ⟨T.ab, 0, none⟩)) ∧ w'.cell? ⟨b, 1, none⟩ = some (.slice (some ⟨g, 0, none⟩) T.nB cap) ∧ w'.cell? ⟨g, k, none⟩ = some (.int .i64 (x.C.h k)))
    (first | exact ⟨c0, c1, f0, f1, f3⟩ | exact ⟨d0, d1, d2, d3, d4⟩ | go_keep)
    (first | (go_at_call 9
              refine (HBK.out _ (HX.out.quiet ((Kept.refl _ _).drew))).mono ?_
              rintro e w4 ⟨rfl, hk4⟩
              have d0 := hk4.cell (b := ob) (i := 0) c0 (by simp)
              have d1 := hk4.cell (b := ob) (i := 1) c1 (by simp)
              have d2 := hk4.cell (b := b) (i := 0) f0 (by simp)
              have d3 := hk4.cell (b := b) (i := 1) f1 (by simp)
              have d4 := hk4.cell (b := g) (i := k) f3 (by simp)
              have e2 := hk4.cell (b := ob) (i := 2) c2 (by simp)
              have e4 := hk4.cell (b := ob) (i := 4) c4 (by simp)
              have e5 := hk4.cell (b := ob) (i := 5) c5 (by simp)
              have e7 := hk4.cell (b := ob) (i := 7) c7 (by simp)
              have HX4 := Lib.hid ((HX.out.quiet ((Kept.refl _ _).drew)).quiet hk4)
              clear hk4))
  go_wp2_with fail
  go_region_held3 (fun w' => w'.cell? ⟨ob, 5, none⟩ = some (.int .u64 q.head) ∧ w'.cell? ⟨ob, 7, none⟩ = some (.int .u64 q.own))
    (first | exact ⟨e5, e7⟩ | exact ⟨i5, i7⟩ | go_keep)
    (first | (go_at_call 35
              refine (HST.out _ (HX4.out.quiet ((Kept.refl _ _).drew))).mono ?_
              rintro e w5 ⟨rfl, hX5⟩
              obtain ⟨i0, _, i2, _, i4, i5, _, i7, zf5⟩ := ho_cells hX5
              have j4 := zf5 4 (by omega)
              have HX6 := Lib.hid (ho_next hX5 0)
              clear hX5 zf5))
  all_goals (
    go_wp2_with fail
    rw [Exit.noGoto_ret]
    go_ret
    exact ⟨rfl, HX6.out⟩)

set_option maxHeartbeats 1000000 in
set_option maxRecDepth 100000 in
theorem refused_key (h : Has o w0 w (HtOp b x T ob q)) (hk : keyB q.key = false) :
    Calls Tryd.prog 33 #[.pointer (some ⟨ob, 0, none⟩)] w fun e w' => e = .returned (.bool true) ∧ Has o w0 w' (HtOp b x T ob (q.ends 0 false 90)) := by
  obtain ⟨c0, c1, _⟩ := ho_cells h
  have HK := Lib.hid (key_walk w q.key)
  rw [hk] at HK
  have HE := Lib.hid (ho_ends h 0 false 90)
  clear h
  go_enter Tryd.func33, Tryd.ntmps33
  go_wp2_with fail
  refine HK.out.mono ?_
  rintro e w' ⟨rfl, rfl⟩
  go_wp2_with fail
  refine HE.out.mono ?_
  rintro e w' ⟨rfl, h'⟩
  have HX := Lib.hid h'
  clear h'
  go_wp2_with fail
  go_ret
  exact ⟨rfl, HX.out⟩
set_option maxHeartbeats 1000000 in
set_option maxRecDepth 100000 in
/-- A step of a key that may not be. -/
theorem step_nokey (h : Has o w0 w (HtOp b x T ob q)) (hk : keyB q.key = false) (hn : q.next = 0) :
    Calls Tryd.prog 21 #[.pointer (some ⟨ob, 0, none⟩)] w fun e w' => e = .returned (.bool true) ∧ Has o w0 w' (HtOp b x T ob (q.ends 0 false 90)) := by
  obtain ⟨c0, c1, c2, c3, c4, c5, c6, c7, zf⟩ := ho_cells h
  rw [hn] at c4
  have HR := Lib.hid (refused_key h hk)
  clear h zf
  go_enter Tryd.func21, Tryd.ntmps21
  go_wp2_with fail
  go_step3
  go_wp2_with fail
  refine HR.out.mono ?_
  rintro e w' ⟨rfl, h'⟩
  have HX := Lib.hid h'
  clear h'
  go_wp2_with fail
  rw [Exit.noGoto_ret]
  go_ret
  exact ⟨rfl, HX.out⟩
end Go.Proofs.YtmldighidbfhhaaDoor
namespace Go.Proofs.YtmldighidbfhhaaDoor
open Go Go.RowKit
set_option linter.unusedVariables false

variable {o : List Nat} {w0 w : World} {b : Nat} {x : HtIx} {T : AHt} {ob : Nat} {q : AHop}

/-- A number's place. -/
def ix (n : Int) : Nat := (n - 1).toNat
theorem ix_succ (i : Nat) : ix ((i : Int) + 1) = i := by unfold ix; omega

/-- What a look comes to. -/
def lookS (T : AHt) (q : AHop) : AHt × AHop × Bool :=
  if q.cur = 0 then
    if q.puts = true then
      if q.own = 0 then (T.add q.key q.ref, { q with own := (T.nE : Int) + 1, next := 2 }, false) else (T, { q with next := 2 }, false)
    else (T, q.ends 0 false 0, true)
  else if (T.E (ix q.cur)).key = q.key then (if q.own = 0 then T else T.free (ix q.own), q.ends (T.E (ix q.cur)).ref true 0, true)
  else (T, { q with next := 1 }, false)
/-- What a step comes to. -/
def hstep (T : AHt) (q : AHop) : AHt × AHop × Bool :=
  if q.next = 4 then (T, q, true)
  else if keyB q.key = false then (T, q.ends 0 false 90, true)
  else if q.next = 0 then lookS T.step { q with head := T.H (T.bk q.key), cur := T.H (T.bk q.key) }
  else if q.next = 1 then lookS T.step { q with cur := (T.E (ix q.cur)).nxt }
  else if q.next = 2 then (T.step.set (.next (ix q.own)) q.head, { q with next := 3 }, false)
  else if T.H (T.bk q.key) = q.head then (T.step.set (.head (T.bk q.key)) q.own, q.ends q.ref false 0, true)
  else (T.step, { q with next := 0 }, false)

/-- An operation that may be stepped. -/
structure HOk (T : AHt) (q : AHop) : Prop where
  next : q.next = 0 ∨ q.next = 1 ∨ q.next = 2 ∨ q.next = 3 ∨ q.next = 4
  own : q.own = 0 ∨ ∃ i : Nat, q.own = (i : Int) + 1 ∧ i < T.nE ∧ (T.E i).gone = false
  cur : q.next = 1 → ∃ m : Nat, q.cur = (m : Int) + 1 ∧ m < T.nE ∧ (T.E m).gone = false
  has : q.next = 2 ∨ q.next = 3 → q.own ≠ 0
  head : 0 ≤ q.head ∧ q.head ≤ T.nE
  key : q.next = 1 ∨ q.next = 2 ∨ q.next = 3 → keyB q.key = true

theorem at_range (hr : HtRep x.S x.C T) {l : HLoc} {v : Int} (h : T.at_ l = some v) : v = 0 ∨ ∃ m : Nat, v = (m : Int) + 1 ∧ m < T.nE := by
  have h1 := (hr.rep.word l v h).1
  have h2 := hr.small l v h
  rcases Int.lt_or_eq_of_le h1 with h3 | h3
  · exact .inr ⟨(v - 1).toNat, by omega, by omega⟩
  · exact .inl h3.symm

theorem look_at (hr : HtRep x.S x.C T) (hT : TabAt w0) (ho : 0 ∉ o) (hn : T.nE ≤ 65536) (hfree : T.used < T.size) (hown : q.own = 0 ∨ ∃ i : Nat, q.own = (i : Int) + 1 ∧ i < T.nE ∧ (T.E i).gone = false) (hcur : q.cur = 0 ∨ ∃ m : Nat, q.cur = (m : Int) + 1 ∧ m < T.nE) :
    LookAt o w0 b x T ob q (lookS T q).1 (lookS T q).2.1 (lookS T q).2.2 := by
  unfold lookS
  rcases hcur with hc | ⟨m, hc, hm⟩
  · rw [if_pos hc]
    refine .inr (.inl ⟨hc, fun W hW => ?_⟩)
    by_cases hp : q.puts = true
    · rw [if_pos hp]
      rcases hown with hw | ⟨i, hw, hi, hg⟩
      · rw [if_pos hw]
        refine (last_add hW hr hT ho hn hp hw hfree).mono ?_
        rintro e w' ⟨rfl, x', hr', h'⟩
        exact ⟨rfl, x', hr', h'⟩
      · rw [if_neg (by omega)]
        refine (last_own hW hp (by omega)).mono ?_
        rintro e w' ⟨rfl, h'⟩
        exact ⟨rfl, x, hr, h'⟩
    · rw [if_neg hp]
      refine (last_look hW (by simpa using hp)).mono ?_
      rintro e w' ⟨rfl, h'⟩
      exact ⟨rfl, x, hr, h'⟩
  · rw [if_neg (by omega)]
    have ei : ix q.cur = m := by rw [hc, ix_succ]
    rw [ei]
    by_cases hk : (T.E m).key = q.key
    · rw [if_pos hk]
      refine .inl ⟨rfl, fun W hW => ?_⟩
      rw [hc]
      rcases hown with hw | ⟨i, hw, hi, hg⟩
      · refine (found_yes hW hr m hm hk hw).mono ?_
        rintro e w' ⟨rfl, x', hr', h'⟩
        refine ⟨rfl, x', ?_, ?_⟩
        · show HtRep x'.S x'.C (if q.own = 0 then T else T.free (ix q.own)); rw [if_pos hw]; exact hr'
        · show Has o w0 w' (HtOp b x' (if q.own = 0 then T else T.free (ix q.own)) ob (q.ends (T.E m).ref true 0)); rw [if_pos hw]; exact h'
      · refine (found_own hW hr m hm hk i hi hg hw).mono ?_
        rintro e w' ⟨rfl, x', hr', h'⟩
        have ej : (if q.own = 0 then T else T.free (ix q.own)) = T.free i := by rw [if_neg (by omega), hw, ix_succ]
        refine ⟨rfl, x', ?_, ?_⟩
        · show HtRep x'.S x'.C (if q.own = 0 then T else T.free (ix q.own)); rw [ej]; exact hr'
        · show Has o w0 w' (HtOp b x' (if q.own = 0 then T else T.free (ix q.own)) ob (q.ends (T.E m).ref true 0)); rw [ej]; exact h'
    · rw [if_neg hk]
      refine .inr (.inr ⟨by omega, rfl, rfl, rfl, hr, fun W hW => ?_⟩)
      rw [hc]
      exact found_no hW m hm hk

/-- A step, whatever is next. -/
theorem step_all (h : Has o w0 w (HtOp b x T ob q)) (hr : HtRep x.S x.C T) (hT : TabAt w0) (ho : 0 ∉ o) (hB : 0 < T.nB) (hB9 : T.nB ≤ 256) (hn : T.nE ≤ 65536) (hfree : T.used < T.size) (hok : HOk T q) :
    Calls Tryd.prog 21 #[.pointer (some ⟨ob, 0, none⟩)] w fun e w' => e = .returned (.bool (hstep T q).2.2) ∧ ∃ x' : HtIx, HtRep x'.S x'.C (hstep T q).1 ∧ Has o w0 w' (HtOp b x' (hstep T q).1 ob (hstep T q).2.1) := by
  have hkb := (bk_eq T q.key hB).2
  by_cases h4 : q.next = 4
  · have e : hstep T q = (T, q, true) := by unfold hstep; rw [if_pos h4]
    rw [e]
    obtain ⟨_, h1, b1⟩ := ho_op h
    refine (step_over h1 h4).mono ?_
    rintro e w' ⟨rfl, rfl⟩
    exact ⟨rfl, x, hr, h⟩
  by_cases hk : keyB q.key = false
  · have h0 : q.next = 0 := by
      rcases hok.next with h | h | h | h | h
      · exact h
      · have := hok.key (.inl h); rw [hk] at this; cases this
      · have := hok.key (.inr (.inl h)); rw [hk] at this; cases this
      · have := hok.key (.inr (.inr h)); rw [hk] at this; cases this
      · exact absurd h h4
    have e : hstep T q = (T, q.ends 0 false 90, true) := by unfold hstep; rw [if_neg h4, if_pos hk]
    rw [e]
    refine (step_nokey h hk h0).mono ?_
    rintro e w' ⟨rfl, h'⟩
    exact ⟨rfl, x, hr, h'⟩
  have hk' : keyB q.key = true := by simpa using hk
  have hn' : T.step.nE ≤ 65536 := hn
  have hf' : T.step.used < T.step.size := hfree
  by_cases h0 : q.next = 0
  · have e : hstep T q = lookS T.step { q with head := T.H (T.bk q.key), cur := T.H (T.bk q.key) } := by unfold hstep; rw [if_neg h4, if_neg hk, if_pos h0]
    rw [e]
    exact step_begin h hr hk' hB hB9 h0 _ _ _ (look_at (x := { x with S := x.S.step }) hr.step hT ho hn' hf' hok.own (at_range hr (at_head hkb)))
  by_cases h1 : q.next = 1
  · obtain ⟨m, hc, hm, hg⟩ := hok.cur h1
    have ei : ix q.cur = m := by rw [hc, ix_succ]
    have e : hstep T q = lookS T.step { q with cur := (T.E m).nxt } := by unfold hstep; rw [if_neg h4, if_neg hk, if_neg h0, if_pos h1, ei]
    rw [e]
    exact step_along h hr hk' hB hB9 h1 m hc hm hg _ _ _ (look_at (x := { x with S := x.S.step }) hr.step hT ho hn' hf' hok.own (at_range hr (at_next hm hg)))
  by_cases h2 : q.next = 2
  · obtain hw | ⟨i, hw, hi, hg⟩ := hok.own
    · exact absurd hw (hok.has (.inl h2))
    have ei : ix q.own = i := by rw [hw, ix_succ]
    have e : hstep T q = (T.step.set (.next i) q.head, { q with next := 3 }, false) := by unfold hstep; rw [if_neg h4, if_neg hk, if_neg h0, if_neg h1, if_pos h2, ei]
    rw [e]
    refine (step_lay h hr hk' hB hB9 h2 i _ hw hi (at_next hi hg)).mono ?_
    rintro e w' ⟨rfl, h'⟩
    exact ⟨rfl, _, hr.step.put (l := .next i) (at_next (T := T.step) hi hg) hok.head.1 hok.head.2 (by show (T.nE : Int) < _; omega), h'⟩
  · have h3 : q.next = 3 := by rcases hok.next with h | h | h | h | h <;> first | exact h | contradiction
    obtain hw | ⟨i, hw, hi, hg⟩ := hok.own
    · exact absurd hw (hok.has (.inr h3))
    by_cases hh : T.H (T.bk q.key) = q.head
    · have e : hstep T q = (T.step.set (.head (T.bk q.key)) q.own, q.ends q.ref false 0, true) := by unfold hstep; rw [if_neg h4, if_neg hk, if_neg h0, if_neg h1, if_neg h2, if_pos hh]
      rw [e]
      refine (step_swap h hr hk' hB hB9 h3 hh).mono ?_
      rintro e w' ⟨rfl, h'⟩
      exact ⟨rfl, _, hr.step.put (l := .head (T.bk q.key)) (at_head (T := T.step) hkb) (by omega) (by show q.own ≤ (T.nE : Int); omega) (by show (T.nE : Int) < _; omega), h'⟩
    · have e : hstep T q = (T.step, { q with next := 0 }, false) := by unfold hstep; rw [if_neg h4, if_neg hk, if_neg h0, if_neg h1, if_neg h2, if_neg hh]
      rw [e]
      refine (step_lost h hr hk' hB hB9 h3 hh).mono ?_
      rintro e w' ⟨rfl, h'⟩
      exact ⟨rfl, _, hr.step, h'⟩
end Go.Proofs.YtmldighidbfhhaaDoor
namespace Go.Proofs.YtmldighidbfhhaaDoor
open Go Go.RowKit
set_option linter.unusedVariables false

/-- The first of a chain, 0 where there is none. -/
def hdl : List Nat → Int
  | [] => 0
  | v :: _ => v
theorem hdl_nonneg (l : List Nat) : 0 ≤ hdl l := by cases l <;> simp [hdl]

variable {T T' : AHt} {C C' : Nat → List Nat} {q q' : AHop}

/-- An entry's key. -/
def ky (T : AHt) (v : Nat) : ByteArray := (T.E (v - 1)).key

/-- Entries, each naming the next. -/
def Chn (T : AHt) : List Nat → Prop
  | [] => True
  | v :: l => 1 ≤ v ∧ v ≤ T.nE ∧ (T.E (v - 1)).gone = false ∧ (T.E (v - 1)).nxt = hdl l ∧ Chn T l

theorem Chn.mem {l : List Nat} (h : Chn T l) : ∀ v ∈ l, 1 ≤ v ∧ v ≤ T.nE ∧ (T.E (v - 1)).gone = false := by
  induction l with
  | nil => simp
  | cons v l ih =>
    obtain ⟨h1, h2, h3, _, h5⟩ := h
    intro u hu
    rcases List.mem_cons.1 hu with rfl | hu
    · exact ⟨h1, h2, h3⟩
    · exact ih h5 u hu
theorem Chn.tail (pre : List Nat) {l : List Nat} (h : Chn T (pre ++ l)) : Chn T l := by
  induction pre with
  | nil => exact h
  | cons u pre ih => exact ih h.2.2.2.2
theorem Chn.keep {l : List Nat} (h : Chn T l) (hn : T.nE ≤ T'.nE) (hv : ∀ v ∈ l, T'.E (v - 1) = T.E (v - 1)) : Chn T' l := by
  induction l with
  | nil => trivial
  | cons v l ih =>
    obtain ⟨h1, h2, h3, h4, h5⟩ := h
    have e := hv v (by simp)
    exact ⟨h1, Nat.le_trans h2 hn, by rw [e]; exact h3, by rw [e]; exact h4, ih h5 fun u hu => hv u (by simp [hu])⟩

/-- Bucket j's chain is C j; a key stands once, in its bucket. -/
structure Tab (T : AHt) (C : Nat → List Nat) : Prop where
  head : ∀ j, j < T.nB → T.H j = hdl (C j)
  link : ∀ j, j < T.nB → Chn T (C j)
  keys : ∀ j, j < T.nB → (C j).Pairwise fun u v => ky T u ≠ ky T v
  bkt : ∀ j, j < T.nB → ∀ v ∈ C j, T.bk (ky T v) = j ∧ keyB (ky T v) = true

/-- An operation under way: S: the chain that it began with; s: what is behind the place where it looks; D: the chain when it was made. -/
structure OpI (T : AHt) (C : Nat → List Nat) (q : AHop) (S s D : List Nat) : Prop where
  next : q.next = 0 ∨ q.next = 1 ∨ q.next = 2 ∨ q.next = 3
  own : q.own = 0 ∨ ∃ i : Nat, q.own = (i : Int) + 1 ∧ i < T.nE ∧ (T.E i).gone = false ∧ (T.E i).key = q.key ∧ (T.E i).ref = q.ref ∧ q.puts = true ∧ ∀ j, j < T.nB → i + 1 ∉ C j
  made : D <:+ C (T.bk q.key)
  key : q.next ≠ 0 → keyB q.key = true ∧ S <:+ C (T.bk q.key) ∧ D <:+ S ∧ q.head = hdl S
  one : q.next = 1 → ∃ s1 c, S = s1 ++ c :: s ∧ q.cur = (c : Int) ∧ ∀ u ∈ s1 ++ [c], ky T u ≠ q.key
  two : q.next = 2 ∨ q.next = 3 → q.own ≠ 0 ∧ ∀ u ∈ S, ky T u ≠ q.key
  three : q.next = 3 → (T.E (ix q.own)).nxt = hdl S
  small : 0 ≤ q.head ∧ q.head ≤ T.nE
  okey : q.own ≠ 0 → keyB q.key = true

theorem OpI.hok {S s D : List Nat} (ht : Tab T C) (hB : 0 < T.nB) (h : OpI T C q S s D) : HOk T q := by
  have hkb := (bk_eq T q.key hB).2
  refine ⟨?_, ?_, fun h1 => ?_, fun h2 => (h.two h2).1, h.small, fun h1 => (h.key (by rcases h1 with h | h | h <;> omega)).1⟩
  · rcases h.next with h | h | h | h
    · exact .inl h
    · exact .inr (.inl h)
    · exact .inr (.inr (.inl h))
    · exact .inr (.inr (.inr (.inl h)))
  · rcases h.own with h0 | ⟨i, h1, h2, h3, _⟩
    · exact .inl h0
    · exact .inr ⟨i, h1, h2, h3⟩
  · obtain ⟨s1, c, e, hc, _⟩ := h.one h1
    obtain ⟨_, ⟨pre, hp⟩, _, _⟩ := h.key (by omega)
    have hm : c ∈ C (T.bk q.key) := by rw [← hp, e]; simp
    obtain ⟨a1, a2, a3⟩ := (ht.link _ hkb).mem c hm
    exact ⟨c - 1, by rw [hc]; omega, by omega, a3⟩

/-- What an operation that is over says. -/
def Said (T : AHt) (C : Nat → List Nat) (q : AHop) (puts : Bool) (ref : Int) (D : List Nat) : Prop :=
  q.next = 4 ∧ ((keyB q.key = false ∧ q.code = 90 ∧ q.had = false ∧ q.ref = 0) ∨
    (keyB q.key = true ∧ q.code = 0 ∧ ((q.had = true ∧ ∃ v ∈ C (T.bk q.key), ky T v = q.key ∧ (T.E (v - 1)).ref = q.ref) ∨
      (q.had = false ∧ puts = false ∧ q.ref = 0 ∧ ∀ u ∈ D, ky T u ≠ q.key) ∨
      (q.had = false ∧ puts = true ∧ q.ref = ref ∧ (∃ v ∈ C (T.bk q.key), ky T v = q.key ∧ (T.E (v - 1)).ref = ref) ∧ ∀ u ∈ D, ky T u ≠ q.key))))

theorem suffix_mem {a b : List Nat} (h : a <:+ b) {u : Nat} (hu : u ∈ a) : u ∈ b := h.subset hu

/-- Two ends of one chain that begin alike are one. -/
theorem suffix_same {L S : List Nat} (hd' : L.Nodup) (h0 : ∀ v ∈ L, 1 ≤ v) (hs : S <:+ L) (he : hdl L = hdl S) : S = L := by
  obtain ⟨pre, rfl⟩ := hs
  cases pre with
  | nil => rfl
  | cons u pre =>
    exfalso
    have h1 := h0 u (by simp)
    cases S with
    | nil => simp [hdl] at he; omega
    | cons v S =>
      have e : u = v := by simp only [List.cons_append, hdl] at he; omega
      subst e
      rw [List.cons_append, List.nodup_cons] at hd'
      exact hd'.1 (by simp)
theorem Tab.nodup (ht : Tab T C) {j : Nat} (hj : j < T.nB) : (C j).Nodup := (ht.keys j hj).imp fun h e => h (by rw [e])

/-- What a step leaves of the rest: entries but the operation's own; keys and refs of all. -/
structure Rest (T T' : AHt) (own : Int) : Prop where
  nB : T'.nB = T.nB
  ab : T'.ab = T.ab
  size : T'.size = T.size
  nE : T.nE ≤ T'.nE ∧ T'.nE ≤ T.nE + 1
  old : ∀ v, 1 ≤ v → v ≤ T.nE → (v : Int) ≠ own → T'.E (v - 1) = T.E (v - 1)
  kr : ∀ v, 1 ≤ v → v ≤ T.nE → (T'.E (v - 1)).key = (T.E (v - 1)).key ∧ (T'.E (v - 1)).ref = (T.E (v - 1)).ref

theorem Rest.bk {own : Int} (h : Rest T T' own) (k : ByteArray) : T'.bk k = T.bk k := by unfold AHt.bk; rw [h.nB]
theorem Rest.same (T : AHt) (own : Int) : Rest T T own := ⟨rfl, rfl, rfl, ⟨Nat.le_refl _, Nat.le_succ _⟩, fun _ _ _ _ => rfl, fun _ _ _ => ⟨rfl, rfl⟩⟩
theorem Rest.step (T : AHt) (own : Int) : Rest T T.step own := ⟨rfl, rfl, rfl, ⟨Nat.le_refl _, Nat.le_succ _⟩, fun _ _ _ _ => rfl, fun _ _ _ => ⟨rfl, rfl⟩⟩

/-- The table stands, where nothing of its chains was turned. -/
theorem Tab.rest {own : Int} (ht : Tab T C) (hr : Rest T T' own) (hH : ∀ j, j < T.nB → T'.H j = T.H j) (hn : ∀ j, j < T.nB → ∀ v ∈ C j, (v : Int) ≠ own) : Tab T' C := by
  have hm : ∀ j, j < T.nB → ∀ v ∈ C j, 1 ≤ v ∧ v ≤ T.nE := fun j hj v hv => ⟨((ht.link j hj).mem v hv).1, ((ht.link j hj).mem v hv).2.1⟩
  have hE : ∀ j, j < T.nB → ∀ v ∈ C j, T'.E (v - 1) = T.E (v - 1) := fun j hj v hv => hr.old v (hm j hj v hv).1 (hm j hj v hv).2 (hn j hj v hv)
  have hk : ∀ j, j < T.nB → ∀ v ∈ C j, ky T' v = ky T v := fun j hj v hv => by unfold ky; rw [hE j hj v hv]
  refine ⟨fun j hj => ?_, fun j hj => ?_, fun j hj => ?_, fun j hj v hv => ?_⟩
  · rw [hr.nB] at hj; rw [hH j hj]; exact ht.head j hj
  · rw [hr.nB] at hj; exact (ht.link j hj).keep hr.nE.1 (hE j hj)
  · rw [hr.nB] at hj
    refine List.Pairwise.imp_of_mem (fun {u v} hu hv huv => ?_) (ht.keys j hj)
    rw [hk j hj u hu, hk j hj v hv]; exact huv
  · rw [hr.nB] at hj
    rw [hk j hj v hv, hr.bk]; exact ht.bkt j hj v hv

/-- Another operation stands, too. -/
theorem OpI.rest {S s D : List Nat} {own : Int} (ht : Tab T C) (hB : 0 < T.nB) (h : OpI T C q S s D) (hr : Rest T T' own) (hown : q.own = 0 ∨ q.own ≠ own) (hn : ∀ j, j < T.nB → ∀ v ∈ C j, (v : Int) ≠ own)
    (hC : ∀ j, C j <:+ C' j) (hC' : ∀ j, j < T.nB → ∀ v ∈ C' j, v ∈ C j ∨ (v : Int) = own) : OpI T' C' q S s D := by
  have hkb := (bk_eq T q.key hB).2
  have hm : ∀ v ∈ C (T.bk q.key), 1 ≤ v ∧ v ≤ T.nE := fun v hv => ⟨((ht.link _ hkb).mem v hv).1, ((ht.link _ hkb).mem v hv).2.1⟩
  have hk : ∀ v ∈ C (T.bk q.key), ky T' v = ky T v := fun v hv => (hr.kr v (hm v hv).1 (hm v hv).2).1
  refine ⟨h.next, ?_, ?_, fun h0 => ?_, fun h1 => ?_, fun h2 => ?_, fun h3 => ?_, ⟨h.small.1, by have := h.small.2; have := hr.nE.1; omega⟩, h.okey⟩
  · rcases h.own with h0 | ⟨i, a1, a2, a3, a4, a5, a6, a7⟩
    · exact .inl h0
    · have e : T'.E i = T.E i := by
        have := hr.old (i + 1) (by omega) (by omega) (by rcases hown with h | h <;> omega)
        simpa using this
      refine .inr ⟨i, a1, Nat.lt_of_lt_of_le a2 hr.nE.1, by rw [e]; exact a3, by rw [e]; exact a4, by rw [e]; exact a5, a6, fun j hj hmem => ?_⟩
      rw [hr.nB] at hj
      rcases hC' j hj _ hmem with h | h
      · exact a7 j hj h
      · rcases hown with h9 | h9
        · omega
        · exact h9 (by rw [a1]; omega)
  · rw [hr.bk]; exact h.made.trans (hC _)
  · obtain ⟨b1, b2, b3, b4⟩ := h.key h0
    rw [hr.bk]
    exact ⟨b1, b2.trans (hC _), b3, b4⟩
  · obtain ⟨s1, c, e, hc, hu⟩ := h.one h1
    obtain ⟨_, b2, _, _⟩ := h.key (by omega)
    refine ⟨s1, c, e, hc, fun u hu' => ?_⟩
    have : u ∈ C (T.bk q.key) := b2.subset (by rw [e]; simp only [List.mem_append, List.mem_cons, List.not_mem_nil, or_false] at hu' ⊢; rcases hu' with h | h <;> simp [h])
    rw [hk u this]; exact hu u hu'
  · obtain ⟨b1, b2⟩ := h.two h2
    obtain ⟨_, b3, _, _⟩ := h.key (by rcases h2 with h | h <;> omega)
    exact ⟨b1, fun u hu => by rw [hk u (b3.subset hu)]; exact b2 u hu⟩
  · obtain ⟨b1, _⟩ := h.two (.inr h3)
    rcases h.own with h0 | ⟨i, a1, a2, _⟩
    · exact absurd h0 b1
    · have e : T'.E i = T.E i := by
        have := hr.old (i + 1) (by omega) (by omega) (by rcases hown with h | h <;> omega)
        simpa using this
      have ei : ix q.own = i := by rw [a1, ix_succ]
      have := h.three h3
      rw [ei] at this ⊢
      rw [e]; exact this
end Go.Proofs.YtmldighidbfhhaaDoor
