/- A level laid; a level linked. -/
import Derived.Test.YtpckpgdkfimapaaDoorSkipGrow
namespace Go.Proofs.YtpckpgdkfimapaaDoor
open Go Go.RowKit
set_option linter.unusedVariables false

variable {o : List Nat} {w0 w : World} {b : Nat} {x : SkIx} {T : ASk} {ob : Nat} {q : ASop}

set_option maxHeartbeats 8000000 in
set_option maxRecDepth 100000 in
theorem lay_walk (h : Has o w0 w (SkOp b x T ob q)) (hr : SkRep x.S x.C T) (m l : Nat) (u v : Int) (hown : q.own = (m : Int) + 1) (hl : q.linked = (l : Int)) (hl8 : l < 8) (hat : T.at_ (m + 1, l) = some u) (hv : q.succs l = v) (h0 : 0 ≤ v) (hvn : v < T.nN) (hnN : T.nN ≤ 65536) :
    Calls Tryd.prog 38 #[.pointer (some ⟨ob, 0, none⟩)] w fun e w' => e = .returned (.bool false) ∧ Has o w0 w' (SkOp b { x with S := x.S.step.put (x.C (m + 1) l) v } (T.step.set (m + 1, l) v) ob { q with does := 2 }) := by
  obtain ⟨hmN, ct⟩ := so_tower h hat hl8
  have HN := Lib.hid (fun (W : World) (hW : Has o w0 W (SkOp b x T ob q)) => show Calls Tryd.prog 43 #[.pointer (some ⟨ob, 0, none⟩), .int .i64 ((m : Int) + 1)] W fun e w' => e = .returned (.pointer (some ⟨x.nb (m + 1), 0, none⟩)) ∧ w' = W from node_at (i := m + 1) hW hmN)
  have HST := Lib.hid (fun (W : World) (hW : Has o w0 W (SkOp b x T ob q)) => so_store hW hr (m + 1, l) u v hat)
  have c0 : w.cell? ⟨ob, 0, none⟩ = some (.pointer (some ⟨b, 0, none⟩)) := (so_cell h 0 (by omega)).1
  have c42 : w.cell? ⟨ob, 42, none⟩ = some (.int .i64 ((m : Int) + 1)) := by rw [← hown]; exact (so_cell h 42 (by omega)).1
  have c43 : w.cell? ⟨ob, 43, none⟩ = some (.int .i64 (l : Int)) := by rw [← hl]; exact (so_cell h 43 (by omega)).1
  have c34 : w.cell? ⟨ob, 34 + l, none⟩ = some (.int .i64 v) := by rw [← hv, ← sopF_succs (some ⟨b, 0, none⟩) q hl8]; exact (so_cell h (34 + l) (by omega)).1
  obtain ⟨f0, _⟩ := so_fields h
  have ct : w.cell? ⟨x.nb (m + 1), 19 + l, none⟩ = some (.int .i64 (x.C (m + 1) l : Nat)) := ct
  have q1 : 0 ≤ (l : Int) ∧ (l : Int) < 8 := by omega
  have hwr : IntKind.u64.wrap v = v := by rw [IntKind.wrap_u64]; omega
  have HX := Lib.hid h
  have HOWN := Lib.hid hown
  have HL := Lib.hid hl
  have HV := Lib.hid hv
  have HAT := Lib.hid (show T.step.at_ (m + 1, l) = some u from hat)
  clear h hr hown hl hat hv
  go_enter Tryd.func38, Tryd.ntmps38
  go_wp2_with fail
  go_region_held3 (fun w' => w'.cell? ⟨ob, 0, none⟩ = some (.pointer (some ⟨b, 0, none⟩)) ∧ w'.cell? ⟨b, 0, none⟩ = some (.pointer (some ⟨T.ab, 0, none⟩)) ∧ w'.cell? ⟨ob, 42, none⟩ = some (.int .i64 ((m : Int) + 1)) ∧ w'.cell? ⟨ob, 43, none⟩ = some (.int .i64 (l : Int)) ∧ w'.cell? ⟨ob, 34 + l, none⟩ = some (.int .i64 v) ∧ w'.cell? ⟨x.nb (m + 1), 19 + l, none⟩ = some (.int .i64 (x.C (m + 1) l : Nat)))
    (first | exact ⟨c0, f0, c42, c43, c34, ct⟩ | exact ⟨d0, g0, d42, d43, d34, dt⟩ | go_keep)
    (first | (go_at_call 43
              refine (HN.out _ (HX.out.quiet ((Kept.refl _ _).drew))).mono ?_
              rintro e w5 ⟨rfl, rfl⟩)
           | (go_at_call 45
              refine (HST.out _ (HX.out.quiet ((Kept.refl _ _).drew))).mono ?_
              rintro e w5 ⟨rfl, hX5⟩
              have d0 : w5.cell? ⟨ob, 0, none⟩ = some (.pointer (some ⟨b, 0, none⟩)) := (so_cell hX5 0 (by omega)).1
              have d42 : w5.cell? ⟨ob, 42, none⟩ = some (.int .i64 ((m : Int) + 1)) := by rw [← HOWN.out]; exact (so_cell hX5 42 (by omega)).1
              have d43 : w5.cell? ⟨ob, 43, none⟩ = some (.int .i64 (l : Int)) := by rw [← HL.out]; exact (so_cell hX5 43 (by omega)).1
              have d34 : w5.cell? ⟨ob, 34 + l, none⟩ = some (.int .i64 v) := by rw [← HV.out, ← sopF_succs (some ⟨b, 0, none⟩) q hl8]; exact (so_cell hX5 (34 + l) (by omega)).1
              have g0 : w5.cell? ⟨b, 0, none⟩ = some (.pointer (some ⟨T.ab, 0, none⟩)) := (so_fields hX5).1
              have dt : w5.cell? ⟨x.nb (m + 1), 19 + l, none⟩ = some (.int .i64 (x.C (m + 1) l : Nat)) := (so_tower (j := l) hX5 (v := v) (by rw [T.step.at_set _ _ _ (by rw [HAT.out]; rfl), if_pos rfl]) hl8).2
              have HX5 := Lib.hid hX5
              clear hX5))
  all_goals (
    obtain ⟨d22, z22⟩ := so_cell HX5.out 22 (by omega)
    clear HX ct c0 c42 c43 c34 f0 d0 d42 d43 d34 g0 dt HN HST
    go_wp2_with fail
    go_ret
    exact ⟨rfl, so_does HX5.out 2⟩)
/-- An operation behind a level linked; is it done? -/
def linkQ (q : ASop) (l : Nat) : ASop × Bool := if (l : Int) + 1 = q.height then ({ q with linked := (l : Int) + 1 }.ends q.key q.ref false 0, true) else ({ q with linked := (l : Int) + 1, does := 1 }, false)


set_option maxHeartbeats 8000000 in
set_option maxRecDepth 100000 in
theorem link_not (h : Has o w0 w (SkOp b x T ob q)) (hr : SkRep x.S x.C T) (p l : Nat) (g u v : Int) (hown : q.own = g) (hg0 : 0 ≤ g) (hgn : g < T.nN) (hl : q.linked = (l : Int)) (hl8 : l < 8) (hp : q.preds l = (p : Int)) (hat : T.at_ (p, l) = some u) (hv : q.succs l = v) (h0 : 0 ≤ v) (hvn : v < T.nN) (hnN : T.nN ≤ 65536) (hne : u ≠ v) :
    Calls Tryd.prog 39 #[.pointer (some ⟨ob, 0, none⟩)] w fun e w' => e = .returned (.bool false) ∧ Has o w0 w' (SkOp b { x with S := x.S.step } T.step ob q.again) := by
  obtain ⟨hpN, ct⟩ := so_tower h hat hl8
  have HN := Lib.hid (fun (W : World) (hW : Has o w0 W (SkOp b x T ob q)) => node_at (i := p) hW hpN)
  have HST := Lib.hid (fun (W : World) (hW : Has o w0 W (SkOp b x T ob q)) => so_cas_not hW hr (p, l) u v g hat hne)
  have c0 : w.cell? ⟨ob, 0, none⟩ = some (.pointer (some ⟨b, 0, none⟩)) := (so_cell h 0 (by omega)).1
  have c42 : w.cell? ⟨ob, 42, none⟩ = some (.int .i64 g) := by rw [← hown]; exact (so_cell h 42 (by omega)).1
  have c43 : w.cell? ⟨ob, 43, none⟩ = some (.int .i64 (l : Int)) := by rw [← hl]; exact (so_cell h 43 (by omega)).1
  have c26 : w.cell? ⟨ob, 26 + l, none⟩ = some (.int .i64 (p : Int)) := by rw [← hp, ← sopF_preds (some ⟨b, 0, none⟩) q hl8]; exact (so_cell h (26 + l) (by omega)).1
  have c34 : w.cell? ⟨ob, 34 + l, none⟩ = some (.int .i64 v) := by rw [← hv, ← sopF_succs (some ⟨b, 0, none⟩) q hl8]; exact (so_cell h (34 + l) (by omega)).1
  obtain ⟨f0, _⟩ := so_fields h
  have q1 : 0 ≤ (l : Int) ∧ (l : Int) < 8 := by omega
  have hwr : IntKind.u64.wrap v = v := by rw [IntKind.wrap_u64]; omega
  have hwg : IntKind.u64.wrap g = g := by rw [IntKind.wrap_u64]; omega
  have HX := Lib.hid h
  have HOWN := Lib.hid hown
  have HL := Lib.hid hl
  have HP := Lib.hid hp
  have HV := Lib.hid hv
  have HAT := Lib.hid (show T.step.at_ (p, l) = some u from hat)
  clear h hr hown hl hat hv hp
  go_enter Tryd.func39, Tryd.ntmps39
  go_wp2_with fail
  go_region_held3 (fun w' => w'.cell? ⟨ob, 0, none⟩ = some (.pointer (some ⟨b, 0, none⟩)) ∧ w'.cell? ⟨b, 0, none⟩ = some (.pointer (some ⟨T.ab, 0, none⟩)) ∧ w'.cell? ⟨ob, 42, none⟩ = some (.int .i64 g) ∧ w'.cell? ⟨ob, 26 + l, none⟩ = some (.int .i64 (p : Int)) ∧ w'.cell? ⟨ob, 34 + l, none⟩ = some (.int .i64 v) ∧ w'.cell? ⟨x.nb p, 19 + l, none⟩ = some (.int .i64 (x.C p l : Nat)))
    (first | exact ⟨c0, f0, c42, c26, c34, ct⟩ | exact ⟨d0, g0, d42, d26, d34, dt⟩ | go_keep)
    (first | (go_at_call 43
              refine (HN.out _ (HX.out.quiet ((Kept.refl _ _).drew))).mono ?_
              rintro e w5 ⟨rfl, rfl⟩)
           | (go_at_call 46
              refine (HST.out _ (HX.out.quiet ((Kept.refl _ _).drew))).mono ?_
              rintro e w5 ⟨rfl, hX5⟩
              have d0 : w5.cell? ⟨ob, 0, none⟩ = some (.pointer (some ⟨b, 0, none⟩)) := (so_cell hX5 0 (by omega)).1
              have d42 : w5.cell? ⟨ob, 42, none⟩ = some (.int .i64 g) := by rw [← HOWN.out]; exact (so_cell hX5 42 (by omega)).1
              have d26 : w5.cell? ⟨ob, 26 + l, none⟩ = some (.int .i64 (p : Int)) := by rw [← HP.out, ← sopF_preds (some ⟨b, 0, none⟩) q hl8]; exact (so_cell hX5 (26 + l) (by omega)).1
              have d34 : w5.cell? ⟨ob, 34 + l, none⟩ = some (.int .i64 v) := by rw [← HV.out, ← sopF_succs (some ⟨b, 0, none⟩) q hl8]; exact (so_cell hX5 (34 + l) (by omega)).1
              have g0 : w5.cell? ⟨b, 0, none⟩ = some (.pointer (some ⟨T.ab, 0, none⟩)) := (so_fields hX5).1
              have dt : w5.cell? ⟨x.nb p, 19 + l, none⟩ = some (.int .i64 (x.C p l : Nat)) := (so_tower (j := l) hX5 (v := u) HAT.out hl8).2
              have HX5 := Lib.hid hX5
              clear hX5))
  all_goals (
    clear HX ct c0 c42 c26 c34 f0 d0 d42 d26 d34 g0 dt HN HST
    go_wp2_with fail
    refine (so_again HX5.out).mono ?_
    rintro e w6 ⟨rfl, hX6⟩
    have HX6 := Lib.hid hX6
    clear hX6
    go_wp2_with fail
    go_ret
    exact ⟨rfl, HX6.out⟩)

set_option maxHeartbeats 8000000 in
set_option maxRecDepth 100000 in
theorem link_ok (h : Has o w0 w (SkOp b x T ob q)) (hr : SkRep x.S x.C T) (p l : Nat) (g u v : Int) (hown : q.own = g) (hg0 : 0 ≤ g) (hgn : g < T.nN) (hl : q.linked = (l : Int)) (hl8 : l < 8) (hp : q.preds l = (p : Int)) (hat : T.at_ (p, l) = some u) (hv : q.succs l = v) (h0 : 0 ≤ v) (hvn : v < T.nN) (hnN : T.nN ≤ 65536) (heq : u = v) :
    Calls Tryd.prog 39 #[.pointer (some ⟨ob, 0, none⟩)] w fun e w' => e = .returned (.bool (linkQ q l).2) ∧ Has o w0 w' (SkOp b { x with S := x.S.step.put (x.C p l) g } (T.step.set (p, l) g) ob (linkQ q l).1) := by
  obtain ⟨hpN, ct⟩ := so_tower h hat hl8
  have HN := Lib.hid (fun (W : World) (hW : Has o w0 W (SkOp b x T ob q)) => node_at (i := p) hW hpN)
  have HST := Lib.hid (fun (W : World) (hW : Has o w0 W (SkOp b x T ob q)) => heq ▸ so_cas hW hr (p, l) u g hat)
  have c0 : w.cell? ⟨ob, 0, none⟩ = some (.pointer (some ⟨b, 0, none⟩)) := (so_cell h 0 (by omega)).1
  have c42 : w.cell? ⟨ob, 42, none⟩ = some (.int .i64 g) := by rw [← hown]; exact (so_cell h 42 (by omega)).1
  have c43 : w.cell? ⟨ob, 43, none⟩ = some (.int .i64 (l : Int)) := by rw [← hl]; exact (so_cell h 43 (by omega)).1
  have c26 : w.cell? ⟨ob, 26 + l, none⟩ = some (.int .i64 (p : Int)) := by rw [← hp, ← sopF_preds (some ⟨b, 0, none⟩) q hl8]; exact (so_cell h (26 + l) (by omega)).1
  have c34 : w.cell? ⟨ob, 34 + l, none⟩ = some (.int .i64 v) := by rw [← hv, ← sopF_succs (some ⟨b, 0, none⟩) q hl8]; exact (so_cell h (34 + l) (by omega)).1
  obtain ⟨f0, _⟩ := so_fields h
  have q1 : 0 ≤ (l : Int) ∧ (l : Int) < 8 := by omega
  have hwr : IntKind.u64.wrap v = v := by rw [IntKind.wrap_u64]; omega
  have hwg : IntKind.u64.wrap g = g := by rw [IntKind.wrap_u64]; omega
  have HX := Lib.hid h
  have HOWN := Lib.hid hown
  have HL := Lib.hid hl
  have HP := Lib.hid hp
  have HV := Lib.hid hv
  have HAT := Lib.hid (show T.step.at_ (p, l) = some u from hat)
  clear h hr hown hl hat hv hp
  go_enter Tryd.func39, Tryd.ntmps39
  go_wp2_with fail
  go_region_held3 (fun w' => w'.cell? ⟨ob, 0, none⟩ = some (.pointer (some ⟨b, 0, none⟩)) ∧ w'.cell? ⟨b, 0, none⟩ = some (.pointer (some ⟨T.ab, 0, none⟩)) ∧ w'.cell? ⟨ob, 42, none⟩ = some (.int .i64 g) ∧ w'.cell? ⟨ob, 26 + l, none⟩ = some (.int .i64 (p : Int)) ∧ w'.cell? ⟨ob, 34 + l, none⟩ = some (.int .i64 v) ∧ w'.cell? ⟨x.nb p, 19 + l, none⟩ = some (.int .i64 (x.C p l : Nat)))
    (first | exact ⟨c0, f0, c42, c26, c34, ct⟩ | exact ⟨d0, g0, d42, d26, d34, dt⟩ | go_keep)
    (first | (go_at_call 43
              refine (HN.out _ (HX.out.quiet ((Kept.refl _ _).drew))).mono ?_
              rintro e w5 ⟨rfl, rfl⟩)
           | (go_at_call 46
              refine (HST.out _ (HX.out.quiet ((Kept.refl _ _).drew))).mono ?_
              rintro e w5 ⟨rfl, hX5⟩
              have d0 : w5.cell? ⟨ob, 0, none⟩ = some (.pointer (some ⟨b, 0, none⟩)) := (so_cell hX5 0 (by omega)).1
              have d42 : w5.cell? ⟨ob, 42, none⟩ = some (.int .i64 g) := by rw [← HOWN.out]; exact (so_cell hX5 42 (by omega)).1
              have d26 : w5.cell? ⟨ob, 26 + l, none⟩ = some (.int .i64 (p : Int)) := by rw [← HP.out, ← sopF_preds (some ⟨b, 0, none⟩) q hl8]; exact (so_cell hX5 (26 + l) (by omega)).1
              have d34 : w5.cell? ⟨ob, 34 + l, none⟩ = some (.int .i64 v) := by rw [← HV.out, ← sopF_succs (some ⟨b, 0, none⟩) q hl8]; exact (so_cell hX5 (34 + l) (by omega)).1
              have g0 : w5.cell? ⟨b, 0, none⟩ = some (.pointer (some ⟨T.ab, 0, none⟩)) := (so_fields hX5).1
              have dt : w5.cell? ⟨x.nb p, 19 + l, none⟩ = some (.int .i64 (x.C p l : Nat)) := (so_tower (j := l) hX5 (v := g) (by rw [T.step.at_set _ _ _ (by rw [HAT.out]; rfl), if_pos rfl]) hl8).2
              have HX5 := Lib.hid hX5
              clear hX5))
  all_goals (
    clear HX ct c0 c42 c26 c34 f0 d0 d42 d26 d34 g0 dt HN HST
    have e43 : w5.cell? ⟨ob, 43, none⟩ = some (.int .i64 (l : Int)) := by rw [← HL.out]; exact (so_cell HX5.out 43 (by omega)).1
    have z43 := (so_cell HX5.out 43 (by omega)).2
    have hw1 : wrap64 ((l : Int) + 1) = (l : Int) + 1 := by unfold wrap64; omega
    have HX6 := Lib.hid (so_linked HX5.out ((l : Int) + 1))
    have e21 : (w5.setCell ⟨ob, 43, none⟩ (.int .i64 ((l : Int) + 1))).cell? ⟨ob, 21, none⟩ = some (.int .i64 q.height) := (so_cell HX6.out 21 (by omega)).1
    have e43b : (w5.setCell ⟨ob, 43, none⟩ (.int .i64 ((l : Int) + 1))).cell? ⟨ob, 43, none⟩ = some (.int .i64 ((l : Int) + 1)) := (so_cell HX6.out 43 (by omega)).1
    have e2 : (w5.setCell ⟨ob, 43, none⟩ (.int .i64 ((l : Int) + 1))).cell? ⟨ob, 2, none⟩ = some (.string q.key) := (so_cell HX6.out 2 (by omega)).1
    have e20 : (w5.setCell ⟨ob, 43, none⟩ (.int .i64 ((l : Int) + 1))).cell? ⟨ob, 20, none⟩ = some (.int .i64 q.ref) := (so_cell HX6.out 20 (by omega)).1
    obtain ⟨e22, z22⟩ := so_cell HX6.out 22 (by omega)
    go_upto_region 7 with fail
    generalize w5.setCell ⟨ob, 43, none⟩ (.int .i64 ((l : Int) + 1)) = w6 at *
    clear HX5 e43 z43
    have HX7 := Lib.hid (HX6.out.quiet ((Kept.refl [] _).drew))
    by_cases hh : (l : Int) + 1 = q.height
    · have g1 : ((l : Int) + 1 == q.height) = true := by simpa using hh
      have g2 : decide ((l : Int) + 1 = q.height) = true := decide_eq_true hh
      have HQ := Lib.hid (show linkQ q l = _ from if_pos hh)
      clear hh
      go_region
      go_wp2_with fail
      go_region_law
        (go_simp
         go_at_call 30
         refine (so_ends ((HX6.out.quiet ((Kept.refl _ _).drew)).quiet ((Kept.refl _ _).drew)) _ _ _ _).mono ?_
         rintro e w7 ⟨rfl, hX7⟩
         have HX8 := Lib.hid hX7
         clear hX7)
      all_goals (
        go_wp2_with fail
        go_ret
        rw [HQ.out]
        exact ⟨rfl, HX8.out⟩)
    · have g1 : ((l : Int) + 1 == q.height) = false := by simpa using hh
      have g2 : decide ((l : Int) + 1 = q.height) = false := decide_eq_false hh
      have HQ := Lib.hid (show linkQ q l = _ from if_neg hh)
      clear hh
      go_region
      go_wp2_with fail
      go_ret
      rw [HQ.out]
      exact ⟨rfl, so_does HX7.out 1⟩)
end Go.Proofs.YtpckpgdkfimapaaDoor
