/- The walks of an Insert's later steps. -/
import Derived.Test.YtmldighidbfhhaaDoorHashGo
namespace Go.Proofs.YtmldighidbfhhaaDoor
open Go Go.RowKit
set_option linter.unusedVariables false

variable {o : List Nat} {w0 w : World} {b : Nat} {x : HtIx} {T : AHt} {ob : Nat} {tb : Option Addr} {q : AHop}

set_option maxHeartbeats 8000000 in
set_option maxRecDepth 100000 in
/-- An entry is laid ahead of what its bucket had. -/
theorem step_lay (h : Has o w0 w (HtOp b x T ob q)) (hr : HtRep x.S x.C T) (hk : keyB q.key = true) (hB : 0 < T.nB) (hB9 : T.nB ≤ 256)
    (hx : q.next = 2) (m : Nat) (u : Int) (hw : q.own = (m : Int) + 1) (hm : m < T.nE) (hu : T.at_ (.next m) = some u) :
    Calls Tryd.prog 21 #[.pointer (some ⟨ob, 0, none⟩)] w fun e w' => e = .returned (.bool false) ∧ Has o w0 w' (HtOp b { x with S := x.S.step.put (x.C.e m) q.head } (T.step.set (.next m) q.head) ob { q with next := 3 }) := by
  obtain ⟨c0, c1, c2, c3, c4, c5, c6, c7, zf⟩ := ho_cells h
  obtain ⟨f0, f1, f2⟩ := ho_fields h
  obtain ⟨hkk, hkb⟩ := bk_eq T q.key hB
  obtain ⟨_, ht, _, _⟩ := ho_tab h
  obtain ⟨g, cap, hhv, f3⟩ := HtP.headCell ht hkb
  obtain ⟨ge, ecap, hev⟩ := HtP.entSlice ht (by omega)
  obtain ⟨_, _, f4, hsm⟩ := HtP.entCells ht hm hev
  rw [hx] at c4
  rw [hw] at c7
  rw [hhv] at f1
  rw [hev] at f2
  have HBK := Lib.hid (fun (W : World) (hW : Has o w0 W (HtOp b x T ob q)) => ho_bucket hW hk hB hB9)
  have HST := Lib.hid (fun (W : World) (hW : Has o w0 W (HtOp b x T ob q)) => ho_store hW hr (.next m) u q.head hu)
  have h9 : T.nE ≤ 9223372036854775807 := Nat.le_trans hsm (by decide)
  have HAT := Lib.hid (fun (W : World) => at_walk W ge T.nE ecap m hm h9)
  have HX := Lib.hid h
  have hb : 0 ≤ (T.bk q.key : Int) ∧ (T.bk q.key : Int) < (T.nB : Int) := by omega
  have HEV := Lib.hid hev
  have HW := Lib.hid hw
  generalize hkv : T.bk q.key = k at *
  clear h hr ht zf hhv hkk hkv hx hk hw hu hev
  go_enter Tryd.func21, Tryd.ntmps21
  go_wp2_with fail
  go_step3
  go_wp2_with fail
  go_region_held (fun w' => w'.cell? ⟨ob, 0, none⟩ = some (.pointer (some ⟨b, 0, none⟩)) ∧ w'.cell? ⟨ob, 1, none⟩ = some (.string q.key) ∧ w'.cell? ⟨b, 0, none⟩ = some (.pointer (some ⟨T.ab, 0, none⟩)) ∧ w'.cell? ⟨b, 1, none⟩ = some (.slice (some ⟨g, 0, none⟩) T.nB cap) ∧ w'.cell? ⟨g, k, none⟩ = some (.int .i64 (x.C.h k)))
    (first | exact ⟨c0, c1, f0, f1, f3⟩ | exact ⟨d0, d1, d2, d3, d4⟩ | go_keep)
    (first | (go_at_call 9
              refine (HBK.out _ (HX.out.quiet ((Kept.refl _ _).drew))).mono ?_
              rintro e w4 ⟨rfl, hk4⟩
              have d0 := hk4.cell (b := ob) (i := 0) c0 (by simp)
              have d1 := hk4.cell (b := ob) (i := 1) c1 (by simp)
              have d2 := hk4.cell (b := b) (i := 0) f0 (by simp)
              have d3 := hk4.cell (b := b) (i := 1) f1 (by simp)
              have d4 := hk4.cell (b := g) (i := k) f3 (by simp)
              have e2 := hk4.cell (b := b) (i := 2) f2 (by simp)
              have e4 := hk4.cell (b := ob) (i := 4) c4 (by simp)
              have e5 := hk4.cell (b := ob) (i := 5) c5 (by simp)
              have e7 := hk4.cell (b := ob) (i := 7) c7 (by simp)
              have e8 := hk4.cell (b := ge) (i := m * 3 + 2) f4 (by simp)
              have HX4 := Lib.hid ((HX.out.quiet ((Kept.refl _ _).drew)).quiet hk4)
              clear hk4))
  go_wp2_with fail
  go_region_held3 (fun w' => w'.cell? ⟨ob, 0, none⟩ = some (.pointer (some ⟨b, 0, none⟩)) ∧ w'.cell? ⟨b, 2, none⟩ = some (.slice (some ⟨ge, 0, none⟩) T.nE ecap) ∧ w'.cell? ⟨ob, 7, none⟩ = some (.int .u64 ((m : Int) + 1)) ∧ w'.cell? ⟨ob, 5, none⟩ = some (.int .u64 q.head) ∧ w'.cell? ⟨ge, m * 3 + 2, none⟩ = some (.int .i64 (x.C.e m)))
    (first | exact ⟨d0, e2, e7, e5, e8⟩ | exact ⟨i0, i2', i7, i5, i8⟩ | go_keep)
    (first | (go_at_call 29
              refine (HAT.out _).mono ?_
              rintro e w5 ⟨rfl, rfl⟩)
           | (go_at_call 34
              refine (HST.out _ (HX4.out.quiet ((Kept.refl _ _).drew))).mono ?_
              rintro e w5 ⟨rfl, hX5⟩
              obtain ⟨i0, _, _, _, _, i5, _, i7, zf5⟩ := ho_cells hX5
              obtain ⟨_, _, i2⟩ := ho_fields hX5
              obtain ⟨_, ht5, _, _⟩ := ho_tab hX5
              obtain ⟨_, _, i8, _⟩ := HtP.entCells ht5 (i := m) (by rw [AHt.nE_set]; exact hm) (g := ge) (cap := ecap) (by rw [AHt.nE_set]; exact HEV.out)
              have i2' : w5.cell? ⟨b, 2, none⟩ = some (.slice (some ⟨ge, 0, none⟩) T.nE ecap) := by rw [← HEV.out]; exact i2
              rw [HW.out] at i7
              have j4 := zf5 4 (by omega)
              have HX6 := Lib.hid (ho_next hX5 3)
              have i4 := (ho_cells hX5).2.2.2.2.1
              clear hX5 ht5 zf5))
  all_goals (
    go_wp2_with fail
    rw [Exit.noGoto_ret]
    go_ret
    exact ⟨rfl, HX6.out⟩)
set_option maxHeartbeats 8000000 in
set_option maxRecDepth 100000 in
/-- The bucket is swapped: it has what it had. -/
theorem step_swap (h : Has o w0 w (HtOp b x T ob q)) (hr : HtRep x.S x.C T) (hk : keyB q.key = true) (hB : 0 < T.nB) (hB9 : T.nB ≤ 256)
    (hx : q.next = 3) (hh : T.H (T.bk q.key) = q.head) :
    Calls Tryd.prog 21 #[.pointer (some ⟨ob, 0, none⟩)] w fun e w' => e = .returned (.bool true) ∧ Has o w0 w' (HtOp b { x with S := x.S.step.put (x.C.h (T.bk q.key)) q.own } (T.step.set (.head (T.bk q.key)) q.own) ob (q.ends q.ref false 0)) := by
  obtain ⟨c0, c1, c2, c3, c4, c5, c6, c7, zf⟩ := ho_cells h
  obtain ⟨f0, f1, f2⟩ := ho_fields h
  obtain ⟨hkk, hkb⟩ := bk_eq T q.key hB
  obtain ⟨_, ht, _, _⟩ := ho_tab h
  obtain ⟨g, cap, hhv, f3⟩ := HtP.headCell ht hkb
  rw [hx] at c4
  rw [hhv] at f1
  have HBK := Lib.hid (fun (W : World) (hW : Has o w0 W (HtOp b x T ob q)) => ho_bucket hW hk hB hB9)
  have HST := Lib.hid (fun (W : World) (hW : Has o w0 W (HtOp b x T ob q)) => ho_cas hW hr (.head (T.bk q.key)) q.head q.own (by rw [at_head hkb, hh]))
  have HX := Lib.hid h
  have hb : 0 ≤ (T.bk q.key : Int) ∧ (T.bk q.key : Int) < (T.nB : Int) := by omega
  generalize hkv : T.bk q.key = k at *
  clear h hr ht zf hhv hkk hkv hx hk hh
  go_enter Tryd.func21, Tryd.ntmps21
  go_wp2_with fail
  go_step3
  go_wp2_with fail
  go_region_held (fun w' => w'.cell? ⟨ob, 0, none⟩ = some (.pointer (some ⟨b, 0, none⟩)) ∧ w'.cell? ⟨ob, 1, none⟩ = some (.string q.key) ∧ w'.cell? ⟨b, 0, none⟩ = some (.pointer (some ⟨T.ab, 0, none⟩)) ∧ w'.cell? ⟨b, 1, none⟩ = some (.slice (some ⟨g, 0, none⟩) T.nB cap) ∧ w'.cell? ⟨g, k, none⟩ = some (.int .i64 (x.C.h k)))
    (first | exact ⟨c0, c1, f0, f1, f3⟩ | exact ⟨d0, d1, d2, d3, d4⟩ | go_keep)
    (first | (go_at_call 9
              refine (HBK.out _ (HX.out.quiet ((Kept.refl _ _).drew))).mono ?_
              rintro e w4 ⟨rfl, hk4⟩
              have d0 := hk4.cell (b := ob) (i := 0) c0 (by simp)
              have d1 := hk4.cell (b := ob) (i := 1) c1 (by simp)
              have d2 := hk4.cell (b := b) (i := 0) f0 (by simp)
              have d3 := hk4.cell (b := b) (i := 1) f1 (by simp)
              have d4 := hk4.cell (b := g) (i := k) f3 (by simp)
              have e2 := hk4.cell (b := ob) (i := 2) c2 (by simp)
              have e4 := hk4.cell (b := ob) (i := 4) c4 (by simp)
              have e5 := hk4.cell (b := ob) (i := 5) c5 (by simp)
              have e7 := hk4.cell (b := ob) (i := 7) c7 (by simp)
              have HX4 := Lib.hid ((HX.out.quiet ((Kept.refl _ _).drew)).quiet hk4)
              clear hk4))
  go_wp2_with fail
  go_region_held3 (fun w' => w'.cell? ⟨ob, 5, none⟩ = some (.int .u64 q.head) ∧ w'.cell? ⟨ob, 7, none⟩ = some (.int .u64 q.own))
    (first | exact ⟨e5, e7⟩ | exact ⟨i5, i7⟩ | go_keep)
    (first | (go_at_call 35
              refine (HST.out _ (HX4.out.quiet ((Kept.refl _ _).drew))).mono ?_
              rintro e w5 ⟨rfl, hX5⟩
              obtain ⟨i0, _, i2, _, i4, i5, _, i7, _⟩ := ho_cells hX5
              have HE := Lib.hid (ho_ends hX5 q.ref false 0)
              clear hX5))
  all_goals (
    go_wp2_with fail
    refine HE.out.mono ?_
    rintro e w6 ⟨rfl, hX6⟩
    have HX6 := Lib.hid hX6
    clear hX6
    go_wp2_with fail
    rw [Exit.noGoto_ret]
    go_ret
    exact ⟨rfl, HX6.out⟩)
end Go.Proofs.YtmldighidbfhhaaDoor
