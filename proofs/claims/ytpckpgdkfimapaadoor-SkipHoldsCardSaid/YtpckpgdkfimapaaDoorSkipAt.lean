/- A node's place; the walk along a level. -/
import Derived.Test.YtpckpgdkfimapaaDoorSkipOp
import Derived.Laws.Cover1
import Derived.OwnWalk
import Derived.Deep.RegionHeld3
import Derived.Deep.CutRange
namespace Go.Proofs.YtpckpgdkfimapaaDoor
open Go Go.RowKit
set_option linter.unusedVariables false

variable {o : List Nat} {w0 w : World} {b : Nat} {x : SkIx} {T : ASk} {ob : Nat} {q : ASop}

noncomputable def SkOp (b : Nat) (x : SkIx) (T : ASk) (ob : Nat) (q : ASop) : Part := (SkP b x T).sep (.sop ob (some ⟨b, 0, none⟩) q)

theorem so_list (h : Has o w0 w (SkOp b x T ob q)) : ∃ o', Has o' w w (SkP b x T) ∧ (∀ y ∈ o', y ∈ o ∨ w0.heap.size ≤ y) ∧ ∀ w' x' T', Has o' w w' (SkP b x' T') → Has o w0 w' (SkOp b x' T' ob q) := by
  obtain ⟨o1, h1, p1, _, b1⟩ := Has.left h
  exact ⟨o1, h1, p1, fun w' x' T' h' => b1 _ _ h'⟩
theorem so_op (h : Has o w0 w (SkOp b x T ob q)) : ∃ o', Has o' w w (.sop ob (some ⟨b, 0, none⟩) q) ∧ ∀ w' q', Has o' w w' (.sop ob (some ⟨b, 0, none⟩) q') → Has o w0 w' (SkOp b x T ob q') := by
  obtain ⟨o1, h1, _, _, b1⟩ := Has.right h
  exact ⟨o1, h1, fun w' q' h' => b1 _ _ h'⟩
theorem so_cell (h : Has o w0 w (SkOp b x T ob q)) (k : Nat) (hk : k < 47) : w.cell? ⟨ob, k, none⟩ = some (sopF (some ⟨b, 0, none⟩) q k) ∧ w.frozen? ⟨ob, k, none⟩ = false := by
  obtain ⟨o1, h1, _⟩ := so_op h
  exact ⟨sop_cell h1 k hk, sop_free h1 k hk⟩
theorem so_fields (h : Has o w0 w (SkOp b x T ob q)) : w.cell? ⟨b, 0, none⟩ = some (.pointer (some ⟨T.ab, 0, none⟩)) ∧ w.cell? ⟨b, 1, none⟩ = some x.nv := by
  obtain ⟨o1, h1, _⟩ := so_list h
  exact ⟨(SkP.fields h1).1, (SkP.fields h1).2.1⟩
theorem so_ptr (h : Has o w0 w (SkOp b x T ob q)) {i : Nat} (hi : i < T.nN) : ∃ g cap, x.nv = .slice (some ⟨g, 0, none⟩) T.nN cap ∧ w.cell? ⟨b, 1, none⟩ = some (.slice (some ⟨g, 0, none⟩) T.nN cap) ∧ w.cell? ⟨g, i, none⟩ = some (.pointer (some ⟨x.nb i, 0, none⟩)) ∧ T.nN ≤ maxLen := by
  obtain ⟨o1, h1, _⟩ := so_list h
  obtain ⟨g, cap, e, hc⟩ := SkP.ptr h1 hi
  exact ⟨g, cap, e, by rw [(SkP.fields h1).2.1, e], hc, (SkP.slice h1).2⟩
theorem so_node (h : Has o w0 w (SkOp b x T ob q)) {i : Nat} (hi : i < T.nN) (k : Nat) (hk : k < 28) : w.cell? ⟨x.nb i, k, none⟩ = some (ndAt (T.E i) (x.C i) k) := by
  obtain ⟨o1, h1, _⟩ := so_list h
  exact SkP.node h1 hi k hk
theorem so_tower (h : Has o w0 w (SkOp b x T ob q)) {i j : Nat} {v : Int} (hv : T.at_ (i, j) = some v) (hj : j < 8) : i < T.nN ∧ w.cell? ⟨x.nb i, 19 + j, none⟩ = some (.int .i64 (x.C i j : Nat)) := by
  obtain ⟨o1, h1, _⟩ := so_list h
  exact SkP.tower h1 hv hj
theorem so_ends (h : Has o w0 w (SkOp b x T ob q)) (found : ByteArray) (ref : Int) (had : Bool) (code : Int) :
    Calls Tryd.prog 30 #[.pointer (some ⟨ob, 0, none⟩), .string found, .int .i64 ref, .bool had, .int .i64 code] w fun e w' => e = .returned (.bool true) ∧ Has o w0 w' (SkOp b x T ob (q.ends found ref had code)) := by
  obtain ⟨o1, h1, b1⟩ := so_op h
  refine (ends_walk h1 found ref had code).mono ?_
  rintro e w' ⟨rfl, h'⟩
  exact ⟨rfl, b1 _ _ h'⟩
theorem so_again (h : Has o w0 w (SkOp b x T ob q)) :
    Calls Tryd.prog 32 #[.pointer (some ⟨ob, 0, none⟩)] w fun e w' => e = .returned (.tuple #[]) ∧ Has o w0 w' (SkOp b x T ob q.again) := by
  obtain ⟨o1, h1, b1⟩ := so_op h
  refine (again_walk h1).mono ?_
  rintro e w' ⟨rfl, h'⟩
  exact ⟨rfl, b1 _ _ h'⟩
theorem so_ref (h : Has o w0 w (SkOp b x T ob q)) (v : Int) : Has o w0 (w.setCell ⟨ob, 20, none⟩ (.int .i64 v)) (SkOp b x T ob { q with ref := v }) := by
  obtain ⟨o1, h1, b1⟩ := so_op h
  exact b1 _ _ (sop_ref h1 v)
theorem so_does (h : Has o w0 w (SkOp b x T ob q)) (v : Int) : Has o w0 (w.setCell ⟨ob, 22, none⟩ (.int .i64 v)) (SkOp b x T ob { q with does := v }) := by
  obtain ⟨o1, h1, b1⟩ := so_op h
  exact b1 _ _ (sop_does h1 v)
theorem so_begun (h : Has o w0 w (SkOp b x T ob q)) (v : Bool) : Has o w0 (w.setCell ⟨ob, 23, none⟩ (.bool v)) (SkOp b x T ob { q with begun := v }) := by
  obtain ⟨o1, h1, b1⟩ := so_op h
  exact b1 _ _ (sop_begun h1 v)
theorem so_level (h : Has o w0 w (SkOp b x T ob q)) (v : Int) : Has o w0 (w.setCell ⟨ob, 24, none⟩ (.int .i64 v)) (SkOp b x T ob { q with level := v }) := by
  obtain ⟨o1, h1, b1⟩ := so_op h
  exact b1 _ _ (sop_level h1 v)
theorem so_pred (h : Has o w0 w (SkOp b x T ob q)) (v : Int) : Has o w0 (w.setCell ⟨ob, 25, none⟩ (.int .i64 v)) (SkOp b x T ob { q with pred := v }) := by
  obtain ⟨o1, h1, b1⟩ := so_op h
  exact b1 _ _ (sop_pred h1 v)
theorem so_own (h : Has o w0 w (SkOp b x T ob q)) (v : Int) : Has o w0 (w.setCell ⟨ob, 42, none⟩ (.int .i64 v)) (SkOp b x T ob { q with own := v }) := by
  obtain ⟨o1, h1, b1⟩ := so_op h
  exact b1 _ _ (sop_own h1 v)
theorem so_linked (h : Has o w0 w (SkOp b x T ob q)) (v : Int) : Has o w0 (w.setCell ⟨ob, 43, none⟩ (.int .i64 v)) (SkOp b x T ob { q with linked := v }) := by
  obtain ⟨o1, h1, b1⟩ := so_op h
  exact b1 _ _ (sop_linked h1 v)
theorem so_preds (h : Has o w0 w (SkOp b x T ob q)) {l : Nat} (hl : l < 8) (v : Int) : Has o w0 (w.setCell ⟨ob, 26 + l, none⟩ (.int .i64 v)) (SkOp b x T ob { q with preds := updI q.preds l v }) := by
  obtain ⟨o1, h1, b1⟩ := so_op h
  exact b1 _ _ (sop_preds h1 hl v)
theorem so_succs (h : Has o w0 w (SkOp b x T ob q)) {l : Nat} (hl : l < 8) (v : Int) : Has o w0 (w.setCell ⟨ob, 34 + l, none⟩ (.int .i64 v)) (SkOp b x T ob { q with succs := updI q.succs l v }) := by
  obtain ⟨o1, h1, b1⟩ := so_op h
  exact b1 _ _ (sop_succs h1 hl v)
theorem so_load (h : Has o w0 w (SkOp b x T ob q)) (hr : SkRep x.S x.C T) (l : SLoc) (v : Int) (hl : T.at_ l = some v) :
    Calls Tryd.prog 27 #[.pointer (some ⟨T.ab, 0, none⟩), .int .i64 (x.C l.1 l.2 : Nat)] w fun e w' => e = .returned (.tuple #[.int .u64 v, .int .i64 0]) ∧ Has o w0 w' (SkOp b { x with S := x.S.step } T.step ob q) := by
  obtain ⟨o1, h1, _, b1⟩ := so_list h
  refine (sk_load h1 hr l v hl).mono ?_
  rintro e w' ⟨rfl, h'⟩
  exact ⟨rfl, b1 _ _ _ h'⟩
theorem so_store (h : Has o w0 w (SkOp b x T ob q)) (hr : SkRep x.S x.C T) (l : SLoc) (u v : Int) (hl : T.at_ l = some u) :
    Calls Tryd.prog 45 #[.pointer (some ⟨T.ab, 0, none⟩), .int .i64 (x.C l.1 l.2 : Nat), .int .u64 v] w fun e w' => e = .returned (.int .i64 0) ∧ Has o w0 w' (SkOp b { x with S := x.S.step.put (x.C l.1 l.2) v } (T.step.set l v) ob q) := by
  obtain ⟨o1, h1, _, b1⟩ := so_list h
  refine (sk_store h1 hr l u v hl).mono ?_
  rintro e w' ⟨rfl, h'⟩
  exact ⟨rfl, b1 _ _ _ h'⟩
theorem so_cas (h : Has o w0 w (SkOp b x T ob q)) (hr : SkRep x.S x.C T) (l : SLoc) (u v : Int) (hl : T.at_ l = some u) :
    Calls Tryd.prog 46 #[.pointer (some ⟨T.ab, 0, none⟩), .int .i64 (x.C l.1 l.2 : Nat), .int .u64 u, .int .u64 v] w fun e w' => e = .returned (.tuple #[.bool true, .int .i64 0]) ∧ Has o w0 w' (SkOp b { x with S := x.S.step.put (x.C l.1 l.2) v } (T.step.set l v) ob q) := by
  obtain ⟨o1, h1, _, b1⟩ := so_list h
  refine (sk_cas h1 hr l u v hl).mono ?_
  rintro e w' ⟨rfl, h'⟩
  exact ⟨rfl, b1 _ _ _ h'⟩
theorem so_cas_not (h : Has o w0 w (SkOp b x T ob q)) (hr : SkRep x.S x.C T) (l : SLoc) (u old v : Int) (hl : T.at_ l = some u) (hne : u ≠ old) :
    Calls Tryd.prog 46 #[.pointer (some ⟨T.ab, 0, none⟩), .int .i64 (x.C l.1 l.2 : Nat), .int .u64 old, .int .u64 v] w fun e w' => e = .returned (.tuple #[.bool false, .int .i64 0]) ∧ Has o w0 w' (SkOp b { x with S := x.S.step } T.step ob q) := by
  obtain ⟨o1, h1, _, b1⟩ := so_list h
  refine (sk_cas_not h1 hr l u old v hl hne).mono ?_
  rintro e w' ⟨rfl, h'⟩
  exact ⟨rfl, b1 _ _ _ h'⟩

set_option maxHeartbeats 1000000 in
set_option maxRecDepth 100000 in
/-- A node's place. -/
theorem node_at (h : Has o w0 w (SkOp b x T ob q)) {i : Nat} (hi : i < T.nN) :
    Calls Tryd.prog 43 #[.pointer (some ⟨ob, 0, none⟩), .int .i64 i] w fun e w' => e = .returned (.pointer (some ⟨x.nb i, 0, none⟩)) ∧ w' = w := by
  have c0 : _ = some (Value.pointer (some ⟨b, 0, none⟩)) := (so_cell h 0 (by omega)).1
  obtain ⟨g, cap, _, c1, c2, hm⟩ := so_ptr h hi
  have q1 : 0 ≤ (i : Int) ∧ (i : Int) < (T.nN : Int) := by omega
  have h9 : T.nN ≤ 9223372036854775807 := Nat.le_trans hm (by decide)
  clear h hm
  go_enter Tryd.func43, Tryd.ntmps43
  go_wp2_with fail
  go_ret
  exact ⟨rfl, rfl⟩

/-- Is a text ahead of another one? -/
def lessB (a c : ByteArray) : Bool := Op.bytesLess a.toList c.toList

set_option maxHeartbeats 8000000 in
set_option maxRecDepth 100000 in
/-- The walk goes on along a level. -/
theorem walk_on (h : Has o w0 w (SkOp b x T ob q)) (hr : SkRep x.S x.C T) (p l m : Nat) (hp : q.pred = (p : Int)) (hl : q.level = (l : Int)) (hl8 : l < 8) (hv : T.at_ (p, l) = some ((m : Int) + 1)) (hlt : lessB (T.E (m + 1)).key q.key = true) :
    Calls Tryd.prog 37 #[.pointer (some ⟨ob, 0, none⟩)] w fun e w' => e = .returned (.bool false) ∧ Has o w0 w' (SkOp b { x with S := x.S.step } T.step ob { q with pred := (m : Int) + 1 }) := by
  have hsm := hr.small _ _ hv
  have hmN : m + 1 < T.nN := by omega
  obtain ⟨hpN, ct⟩ := so_tower h hv hl8
  have HNA := Lib.hid (fun (W : World) (hW : Has o w0 W (SkOp b x T ob q)) => node_at hW hpN)
  have HNB := Lib.hid (fun (W : World) (hW : Has o w0 W (SkOp b { x with S := x.S.step } T.step ob q)) => show Calls Tryd.prog 43 #[.pointer (some ⟨ob, 0, none⟩), .int .i64 ((m : Int) + 1)] W fun e w' => e = .returned (.pointer (some ⟨x.nb (m + 1), 0, none⟩)) ∧ w' = W from node_at (i := m + 1) hW hmN)
  have HLD := Lib.hid (fun (W : World) (hW : Has o w0 W (SkOp b x T ob q)) => so_load hW hr (p, l) _ hv)
  have c0 : _ = some (Value.pointer (some ⟨b, 0, none⟩)) := (so_cell h 0 (by omega)).1
  have c24 : w.cell? ⟨ob, 24, none⟩ = some (.int .i64 (l : Int)) := by rw [← hl]; exact (so_cell h 24 (by omega)).1
  have c25 : w.cell? ⟨ob, 25, none⟩ = some (.int .i64 (p : Int)) := by rw [← hp]; exact (so_cell h 25 (by omega)).1
  obtain ⟨f0, _⟩ := so_fields h
  have HX := Lib.hid h
  obtain ⟨_, _, _, _, _, hmx⟩ := so_ptr h hpN
  have hN9 : T.nN ≤ 9223372036854775807 := Nat.le_trans hmx (by decide)
  have HP := Lib.hid hp
  have HL := Lib.hid hl
  have q1 : 0 ≤ (l : Int) ∧ (l : Int) < 8 := by omega
  have HV := Lib.hid hv
  have HLT := Lib.hid hlt
  clear h hr hp hl hv hlt hsm hmx
  go_enter Tryd.func37, Tryd.ntmps37
  go_wp2_with fail
  go_region_held3 (fun w' => w'.cell? ⟨ob, 0, none⟩ = some (.pointer (some ⟨b, 0, none⟩)) ∧ w'.cell? ⟨b, 0, none⟩ = some (.pointer (some ⟨T.ab, 0, none⟩)) ∧ w'.cell? ⟨ob, 25, none⟩ = some (.int .i64 (p : Int)) ∧ w'.cell? ⟨ob, 24, none⟩ = some (.int .i64 (l : Int)) ∧ w'.cell? ⟨x.nb p, 19 + l, none⟩ = some (.int .i64 (x.C p l : Nat)))
    (first | exact ⟨c0, f0, c25, c24, ct⟩ | exact ⟨d0, g0, d25, d24, dt⟩ | go_keep)
    (first | (go_at_call 43
              refine (HNA.out _ (HX.out.quiet ((Kept.refl _ _).drew))).mono ?_
              rintro e w5 ⟨rfl, rfl⟩)
           | (go_at_call 27
              refine (HLD.out _ (HX.out.quiet ((Kept.refl _ _).drew))).mono ?_
              rintro e w5 ⟨rfl, hX5⟩
              have d0 : _ = some (Value.pointer (some ⟨b, 0, none⟩)) := (so_cell hX5 0 (by omega)).1
              have d24 : w5.cell? ⟨ob, 24, none⟩ = some (.int .i64 (l : Int)) := by rw [← HL.out]; exact (so_cell hX5 24 (by omega)).1
              have d25 : w5.cell? ⟨ob, 25, none⟩ = some (.int .i64 (p : Int)) := by rw [← HP.out]; exact (so_cell hX5 25 (by omega)).1
              obtain ⟨g0, _⟩ := so_fields hX5
              obtain ⟨_, dt⟩ := so_tower (T := T.step) (x := { x with S := x.S.step }) hX5 (show T.step.at_ (p, l) = some ((m : Int) + 1) from HV.out) hl8
              have HX5 := Lib.hid hX5
              clear hX5))
  all_goals (
    have hwr : wrap64 ((m : Int) + 1) = (m : Int) + 1 := by unfold wrap64; omega
    have e1 : w5.cell? ⟨x.nb (m + 1), 0, none⟩ = some (.string (T.E (m + 1)).key) := so_node (T := T.step) HX5.out hmN 0 (by omega)
    have e2 : w5.cell? ⟨ob, 2, none⟩ = some (.string q.key) := (so_cell HX5.out 2 (by omega)).1
    obtain ⟨e3, z3⟩ := so_cell HX5.out 25 (by omega)
    have g1 : decide (0 < (m : Int) + 1) = true := decide_eq_true (by omega)
    have hlt : Op.bytesLess (T.E (m + 1)).key.toList q.key.toList = true := HLT.out
    clear HX ct dt c0 c24 c25 f0 d24 g0 HNA HLD
    go_wp2_with fail
    go_quiet (first | (go_at_call 43; exact Calls.quiet_of_same (HNB.out _ (HX5.out.drewN _))))
    go_wp2_with fail
    go_ret
    exact ⟨rfl, so_pred (HX5.out.drewN _) _⟩)

set_option maxHeartbeats 8000000 in
set_option maxRecDepth 100000 in
/-- The walk goes down a level. -/
theorem walk_down (h : Has o w0 w (SkOp b x T ob q)) (hr : SkRep x.S x.C T) (p l : Nat) (v : Int) (hp : q.pred = (p : Int)) (hl : q.level = (l : Int) + 1) (hl8 : l + 1 < 8) (hv : T.at_ (p, l + 1) = some v) (hs : v = 0 ∨ ∃ m : Nat, v = (m : Int) + 1 ∧ lessB (T.E (m + 1)).key q.key = false) :
    Calls Tryd.prog 37 #[.pointer (some ⟨ob, 0, none⟩)] w fun e w' => e = .returned (.bool false) ∧ Has o w0 w' (SkOp b { x with S := x.S.step } T.step ob { q with preds := updI q.preds (l + 1) p, succs := updI q.succs (l + 1) v, level := l }) := by
  have hsm := hr.small _ _ hv
  obtain ⟨hpN, ct⟩ := so_tower h hv hl8
  have HNA := Lib.hid (fun (W : World) (hW : Has o w0 W (SkOp b x T ob q)) => node_at hW hpN)
  have HLD := Lib.hid (fun (W : World) (hW : Has o w0 W (SkOp b x T ob q)) => so_load hW hr (p, l + 1) _ hv)
  have c0 : _ = some (Value.pointer (some ⟨b, 0, none⟩)) := (so_cell h 0 (by omega)).1
  have c24 : w.cell? ⟨ob, 24, none⟩ = some (.int .i64 ((l : Int) + 1)) := by rw [← hl]; exact (so_cell h 24 (by omega)).1
  have c25 : w.cell? ⟨ob, 25, none⟩ = some (.int .i64 (p : Int)) := by rw [← hp]; exact (so_cell h 25 (by omega)).1
  obtain ⟨f0, _⟩ := so_fields h
  have HX := Lib.hid h
  obtain ⟨_, _, _, _, _, hmx⟩ := so_ptr h hpN
  have hN9 : T.nN ≤ 9223372036854775807 := Nat.le_trans hmx (by decide)
  have HP := Lib.hid hp
  have HL := Lib.hid hl
  have q1 : 0 ≤ (l : Int) + 1 ∧ (l : Int) + 1 < 8 := by omega
  have HV := Lib.hid hv
  have HS := Lib.hid hs
  have HSM := Lib.hid hsm
  clear h hr hp hl hv hs hsm hmx
  go_enter Tryd.func37, Tryd.ntmps37
  go_wp2_with fail
  go_region_held3 (fun w' => w'.cell? ⟨ob, 0, none⟩ = some (.pointer (some ⟨b, 0, none⟩)) ∧ w'.cell? ⟨b, 0, none⟩ = some (.pointer (some ⟨T.ab, 0, none⟩)) ∧ w'.cell? ⟨ob, 25, none⟩ = some (.int .i64 (p : Int)) ∧ w'.cell? ⟨ob, 24, none⟩ = some (.int .i64 ((l : Int) + 1)) ∧ w'.cell? ⟨x.nb p, 19 + (l + 1), none⟩ = some (.int .i64 (x.C p (l + 1) : Nat)))
    (first | exact ⟨c0, f0, c25, c24, ct⟩ | exact ⟨d0, g0, d25, d24, dt⟩ | go_keep)
    (first | (go_at_call 43
              refine (HNA.out _ (HX.out.quiet ((Kept.refl _ _).drew))).mono ?_
              rintro e w5 ⟨rfl, rfl⟩)
           | (go_at_call 27
              refine (HLD.out _ (HX.out.quiet ((Kept.refl _ _).drew))).mono ?_
              rintro e w5 ⟨rfl, hX5⟩
              have d0 : _ = some (Value.pointer (some ⟨b, 0, none⟩)) := (so_cell hX5 0 (by omega)).1
              have d24 : w5.cell? ⟨ob, 24, none⟩ = some (.int .i64 ((l : Int) + 1)) := by rw [← HL.out]; exact (so_cell hX5 24 (by omega)).1
              have d25 : w5.cell? ⟨ob, 25, none⟩ = some (.int .i64 (p : Int)) := by rw [← HP.out]; exact (so_cell hX5 25 (by omega)).1
              obtain ⟨g0, _⟩ := so_fields hX5
              obtain ⟨_, dt⟩ := so_tower (T := T.step) (x := { x with S := x.S.step }) hX5 (show T.step.at_ (p, l + 1) = some v from HV.out) hl8
              have HX5 := Lib.hid hX5
              clear hX5))
  go_upto_region 3 with fail
  have hwr : wrap64 v = v := by have := HSM.out; rcases HS.out with h | ⟨m, h, _⟩ <;> (unfold wrap64; omega)
  rw [hwr]
  go_cut [47] from 6 (fun s47 wx => s47 = .bool false ∧ ∃ nq, wx = w5.drewN nq)
  case first =>
    clear HX ct dt c0 c24 c25 f0 d24 g0 HNA HLD
    rcases HS.out with rfl | ⟨m, rfl, hlt⟩
    · go_quiet (fail)
      go_wp2_with fail
      go_meet
      exact ⟨rfl, _, rfl⟩
    · have hmN : m + 1 < T.nN := by have := HSM.out; omega
      have HNB := Lib.hid (fun (W : World) (hW : Has o w0 W (SkOp b { x with S := x.S.step } T.step ob q)) => show Calls Tryd.prog 43 #[.pointer (some ⟨ob, 0, none⟩), .int .i64 ((m : Int) + 1)] W fun e w' => e = .returned (.pointer (some ⟨x.nb (m + 1), 0, none⟩)) ∧ w' = W from node_at (i := m + 1) hW hmN)
      have e1 : w5.cell? ⟨x.nb (m + 1), 0, none⟩ = some (.string (T.E (m + 1)).key) := so_node (T := T.step) HX5.out hmN 0 (by omega)
      have e2 : w5.cell? ⟨ob, 2, none⟩ = some (.string q.key) := (so_cell HX5.out 2 (by omega)).1
      have g1 : decide (0 < (m : Int) + 1) = true := decide_eq_true (by omega)
      have hlt2 : Op.bytesLess (T.E (m + 1)).key.toList q.key.toList = false := hlt
      clear hlt hmN
      go_quiet (first | (go_at_call 43; exact Calls.quiet_of_same (HNB.out _ (HX5.out.drewN _))))
      go_wp2_with fail
      go_meet
      exact ⟨rfl, _, rfl⟩
  case rest =>
    obtain ⟨rfl, nq, rfl⟩ := hcut
    have HX6 := Lib.hid (HX5.out.drewN nq)
    generalize w5.drewN nq = w6 at *
    clear HX ct dt c0 c24 c25 f0 d24 g0 d0 d25 HNA HLD HX5 HV
    have c24 : w6.cell? ⟨ob, 24, none⟩ = some (.int .i64 ((l : Int) + 1)) := by rw [← HL.out]; exact (so_cell HX6.out 24 (by omega)).1
    have c25 : w6.cell? ⟨ob, 25, none⟩ = some (.int .i64 (p : Int)) := by rw [← HP.out]; exact (so_cell HX6.out 25 (by omega)).1
    obtain ⟨a1, z1⟩ := so_cell HX6.out (26 + (l + 1)) (by omega)
    obtain ⟨a2, z2⟩ := so_cell HX6.out (34 + (l + 1)) (by omega)
    have z3 := (so_cell HX6.out 24 (by omega)).2
    have g1 : decide (0 < (l : Int) + 1) = true := decide_eq_true (by omega)
    go_wp2_with fail
    go_region
    go_wp2_with fail
    go_ret
    exact ⟨rfl, (so_level (so_succs (so_preds HX6.out hl8 _) hl8 v) _).quiet ((Kept.refl [] _).drew)⟩
set_option maxHeartbeats 8000000 in
set_option maxRecDepth 100000 in
/-- The walk arrives. -/
theorem walk_end {F : Bool → World → Prop} (h : Has o w0 w (SkOp b x T ob q)) (hr : SkRep x.S x.C T) (p : Nat) (v : Int) (hp : q.pred = (p : Int)) (hl : q.level = 0) (hv : T.at_ (p, 0) = some v) (hs : v = 0 ∨ ∃ m : Nat, v = (m : Int) + 1 ∧ lessB (T.E (m + 1)).key q.key = false)
    (hA : ∀ W, Has o w0 W (SkOp b { x with S := x.S.step } T.step ob { q with preds := updI q.preds 0 p, succs := updI q.succs 0 v }) → Calls Tryd.prog 44 #[.pointer (some ⟨ob, 0, none⟩), .int .i64 v] W fun e w' => ∃ r, e = .returned (.bool r) ∧ F r w') :
    Calls Tryd.prog 37 #[.pointer (some ⟨ob, 0, none⟩)] w fun e w' => ∃ r, e = .returned (.bool r) ∧ F r w' := by
  have hl8 : 0 < 8 := by omega
  have HA := Lib.hid hA
  clear hA
  have hsm := hr.small _ _ hv
  obtain ⟨hpN, ct⟩ := so_tower h hv hl8
  have HNA := Lib.hid (fun (W : World) (hW : Has o w0 W (SkOp b x T ob q)) => node_at hW hpN)
  have HLD := Lib.hid (fun (W : World) (hW : Has o w0 W (SkOp b x T ob q)) => so_load hW hr (p, 0) _ hv)
  have c0 : _ = some (Value.pointer (some ⟨b, 0, none⟩)) := (so_cell h 0 (by omega)).1
  have c24 : w.cell? ⟨ob, 24, none⟩ = some (.int .i64 0) := by rw [← hl]; exact (so_cell h 24 (by omega)).1
  have c25 : w.cell? ⟨ob, 25, none⟩ = some (.int .i64 (p : Int)) := by rw [← hp]; exact (so_cell h 25 (by omega)).1
  obtain ⟨f0, _⟩ := so_fields h
  have HX := Lib.hid h
  obtain ⟨_, _, _, _, _, hmx⟩ := so_ptr h hpN
  have hN9 : T.nN ≤ 9223372036854775807 := Nat.le_trans hmx (by decide)
  have HP := Lib.hid hp
  have HL := Lib.hid hl
  have HV := Lib.hid hv
  have HS := Lib.hid hs
  have HSM := Lib.hid hsm
  clear h hr hp hl hv hs hsm hmx
  go_enter Tryd.func37, Tryd.ntmps37
  go_wp2_with fail
  go_region_held3 (fun w' => w'.cell? ⟨ob, 0, none⟩ = some (.pointer (some ⟨b, 0, none⟩)) ∧ w'.cell? ⟨b, 0, none⟩ = some (.pointer (some ⟨T.ab, 0, none⟩)) ∧ w'.cell? ⟨ob, 25, none⟩ = some (.int .i64 (p : Int)) ∧ w'.cell? ⟨ob, 24, none⟩ = some (.int .i64 0) ∧ w'.cell? ⟨x.nb p, 19, none⟩ = some (.int .i64 (x.C p 0 : Nat)))
    (first | exact ⟨c0, f0, c25, c24, ct⟩ | exact ⟨d0, g0, d25, d24, dt⟩ | go_keep)
    (first | (go_at_call 43
              refine (HNA.out _ (HX.out.quiet ((Kept.refl _ _).drew))).mono ?_
              rintro e w5 ⟨rfl, rfl⟩)
           | (go_at_call 27
              refine (HLD.out _ (HX.out.quiet ((Kept.refl _ _).drew))).mono ?_
              rintro e w5 ⟨rfl, hX5⟩
              have d0 : _ = some (Value.pointer (some ⟨b, 0, none⟩)) := (so_cell hX5 0 (by omega)).1
              have d24 : w5.cell? ⟨ob, 24, none⟩ = some (.int .i64 0) := by rw [← HL.out]; exact (so_cell hX5 24 (by omega)).1
              have d25 : w5.cell? ⟨ob, 25, none⟩ = some (.int .i64 (p : Int)) := by rw [← HP.out]; exact (so_cell hX5 25 (by omega)).1
              obtain ⟨g0, _⟩ := so_fields hX5
              obtain ⟨_, dt⟩ := so_tower (T := T.step) (x := { x with S := x.S.step }) hX5 (show T.step.at_ (p, 0) = some v from HV.out) hl8
              have HX5 := Lib.hid hX5
              clear hX5))
  go_upto_region 3 with fail
  have hwr : wrap64 v = v := by have := HSM.out; rcases HS.out with h | ⟨m, h, _⟩ <;> (unfold wrap64; omega)
  rw [hwr]
  go_cut [47] from 6 (fun s47 wx => s47 = .bool false ∧ ∃ nq, wx = w5.drewN nq)
  case first =>
    clear HX ct dt c0 c24 c25 f0 d24 g0 HNA HLD
    rcases HS.out with rfl | ⟨m, rfl, hlt⟩
    · go_quiet (fail)
      go_wp2_with fail
      go_meet
      exact ⟨rfl, _, rfl⟩
    · have hmN : m + 1 < T.nN := by have := HSM.out; omega
      have HNB := Lib.hid (fun (W : World) (hW : Has o w0 W (SkOp b { x with S := x.S.step } T.step ob q)) => show Calls Tryd.prog 43 #[.pointer (some ⟨ob, 0, none⟩), .int .i64 ((m : Int) + 1)] W fun e w' => e = .returned (.pointer (some ⟨x.nb (m + 1), 0, none⟩)) ∧ w' = W from node_at (i := m + 1) hW hmN)
      have e1 : w5.cell? ⟨x.nb (m + 1), 0, none⟩ = some (.string (T.E (m + 1)).key) := so_node (T := T.step) HX5.out hmN 0 (by omega)
      have e2 : w5.cell? ⟨ob, 2, none⟩ = some (.string q.key) := (so_cell HX5.out 2 (by omega)).1
      have g1 : decide (0 < (m : Int) + 1) = true := decide_eq_true (by omega)
      have hlt2 : Op.bytesLess (T.E (m + 1)).key.toList q.key.toList = false := hlt
      clear hlt hmN
      go_quiet (first | (go_at_call 43; exact Calls.quiet_of_same (HNB.out _ (HX5.out.drewN _))))
      go_wp2_with fail
      go_meet
      exact ⟨rfl, _, rfl⟩
  case rest =>
    obtain ⟨rfl, nq, rfl⟩ := hcut
    have HX6 := Lib.hid (HX5.out.drewN nq)
    generalize w5.drewN nq = w6 at *
    clear HX ct dt c0 c24 c25 f0 d24 g0 d0 d25 HNA HLD HX5 HV
    have c24 : w6.cell? ⟨ob, 24, none⟩ = some (.int .i64 0) := by rw [← HL.out]; exact (so_cell HX6.out 24 (by omega)).1
    have c25 : w6.cell? ⟨ob, 25, none⟩ = some (.int .i64 (p : Int)) := by rw [← HP.out]; exact (so_cell HX6.out 25 (by omega)).1
    obtain ⟨a1, z1⟩ := so_cell HX6.out (26) (by omega)
    obtain ⟨a2, z2⟩ := so_cell HX6.out (34) (by omega)
    have z3 := (so_cell HX6.out 24 (by omega)).2
    go_wp2_with fail
    go_region
    go_wp2_with fail
    refine (HA.out _ ((so_succs (so_preds HX6.out hl8 _) hl8 v).quiet ((Kept.refl [] _).drew))).mono ?_
    rintro e w7 ⟨rr, rfl, hF⟩
    have HF := Lib.hid hF
    clear hF HA
    go_wp2_with fail
    go_ret
    exact ⟨rr, rfl, HF.out⟩
end Go.Proofs.YtpckpgdkfimapaaDoor
