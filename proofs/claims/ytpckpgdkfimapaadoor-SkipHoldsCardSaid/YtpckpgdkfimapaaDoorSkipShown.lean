/- The document's example, walked. -/
import Derived.Test.YtpckpgdkfimapaaDoorSkipDone
namespace Go.Proofs.YtpckpgdkfimapaaDoor
open Go Go.RowKit
set_option linter.unusedVariables false

def kb : ByteArray := ⟨#[98]⟩
def opA : ASop := .new 0 kb kb 7 3
def opB : ASop := .new 0 kb kb 8 1
def opC : ASop := .new 2 ⟨#[]⟩ ⟨#[]⟩ 0 0
/-- The example's three operations, reckoned. -/
def threeB (ab : Nat) : Bool :=
  match runB 40 (ASk.fresh ab 20 0) opA with
  | some (T1, q1, _) => (match runB 40 T1 opB with
    | some (T2, q2, _) => (match runB 40 T2 opC with
      | some (T3, q3, _) => decide (q1.does = 3) && decide (q1.ref = 7) && !q1.had && decide (q1.code = 0) && decide (q2.does = 3) && decide (q2.ref = 7) && q2.had && decide (q2.code = 0)
          && decide (q3.does = 3) && decide (q3.ref = 7) && q3.had && decide (q3.code = 0) && decide (q3.found = kb) && decide (T3.used = 11)
      | none => false)
    | none => false)
  | none => false
set_option maxRecDepth 100000 in
theorem threeB_true (ab : Nat) : threeB ab = true := by kernel_rfl
theorem three_runs (ab : Nat) : ∃ T1 q1 m1 T2 q2 m2 T3 q3 m3, runB 40 (ASk.fresh ab 20 0) opA = some (T1, q1, m1) ∧ runB 40 T1 opB = some (T2, q2, m2) ∧ runB 40 T2 opC = some (T3, q3, m3) ∧
    (q1.does = 3 ∧ q1.ref = 7 ∧ q1.had = false ∧ q1.code = 0) ∧ (q2.does = 3 ∧ q2.ref = 7 ∧ q2.had = true ∧ q2.code = 0) ∧ (q3.does = 3 ∧ q3.ref = 7 ∧ q3.had = true ∧ q3.code = 0 ∧ q3.found = kb) ∧ T3.used = 11 := by
  have h := threeB_true ab
  unfold threeB at h
  cases e1 : runB 40 (ASk.fresh ab 20 0) opA with
  | none => rw [e1] at h; cases h
  | some r1 =>
    obtain ⟨T1, q1, m1⟩ := r1
    rw [e1] at h
    dsimp only at h
    cases e2 : runB 40 T1 opB with
    | none => rw [e2] at h; cases h
    | some r2 =>
      obtain ⟨T2, q2, m2⟩ := r2
      rw [e2] at h
      dsimp only at h
      cases e3 : runB 40 T2 opC with
      | none => rw [e3] at h; cases h
      | some r3 =>
        obtain ⟨T3, q3, m3⟩ := r3
        rw [e3] at h
        dsimp only at h
        simp only [Bool.and_eq_true, decide_eq_true_eq, Bool.not_eq_true'] at h
        obtain ⟨⟨⟨⟨⟨⟨⟨⟨⟨⟨⟨⟨⟨a1, a2⟩, a3⟩, a4⟩, b1⟩, b2⟩, b3⟩, b4⟩, c1⟩, c2⟩, c3⟩, c4⟩, c5⟩, d⟩ := h
        exact ⟨T1, q1, m1, T2, q2, m2, T3, q3, m3, rfl, e2, e3, ⟨a1, a2, a3, a4⟩, ⟨b1, b2, b3, b4⟩, ⟨c1, c2, c3, c4, c5⟩, d⟩

theorem arrS_ab (T : ASk) (q : ASop) (v : Int) : (arrS T q v).1.ab = T.ab := by
  unfold arrS
  repeat' split
  all_goals rfl
theorem walkS_ab (T : ASk) (q : ASop) : (walkS T q).1.ab = T.ab := by
  unfold walkS
  dsimp only
  repeat' split
  all_goals first | rfl | exact arrS_ab _ _ _
theorem stepS_ab (T : ASk) (q : ASop) : (stepS T q).1.ab = T.ab := by
  unfold stepS
  repeat' split
  all_goals first | rfl | exact walkS_ab _ _
theorem runB_ab : ∀ (n : Nat) (T : ASk) (q : ASop) {T' : ASk} {q' : ASop} {m : Nat}, runB n T q = some (T', q', m) → T'.ab = T.ab
  | 0, _, _, _, _, _, h => by cases h
  | n + 1, T, q, T', q', m, h => by
    unfold runB at h
    split at h
    · split at h
      · have e : (stepS T q).1 = T' := congrArg (fun r => r.1) (Option.some.inj h)
        rw [← e]; exact stepS_ab T q
      · obtain ⟨⟨T2, q2, m2⟩, h2, h3⟩ := Option.map_eq_some_iff.1 h
        have e : T2 = T' := congrArg (fun r => r.1) h3
        rw [← e, runB_ab n _ _ h2]; exact stepS_ab T q
    · cases h

variable {o : List Nat} {w0 w : World} {b : Nat} {x : SkIx} {T : ASk}

theorem sk_used (h : Has o w0 w (SkP b x T)) (hr : SkRep x.S x.C T) :
    Calls Tryd.prog 13 #[.pointer (some ⟨T.ab, 0, none⟩)] w fun e w' => e = .returned (.int .i64 (T.used : Nat)) ∧ w' = w := by
  obtain ⟨o', hO, _, _⟩ := skp_arena h
  have := own_used hO
  rw [hr.rep.count] at this
  refine this.mono ?_
  rintro e w' ⟨rfl, rfl⟩
  exact ⟨rfl, rfl⟩

theorem run_beside {R : Part} {q q' : ASop} {T' : ASk} {ob n m : Nat} (hrun : runB (n + 1) T q = some (T', q', m)) (h : Has [] w0 w ((SkOp b x T ob q).sep R)) (hr : SkRep x.S x.C T) (hT : TabAt w0) (most : Nat) (hm : n + 1 ≤ most) (hm9 : most ≤ 1000000000000) :
    Calls Tryd.prog 17 #[.pointer (some ⟨ob, 0, none⟩), .int .i64 (most : Nat)] w fun e w' => ∃ r : Nat, e = .returned (.int .i64 ((r : Int) + 1)) ∧ ∃ x', SkRep x'.S x'.C T' ∧ Has [] w0 w' ((SkOp b x' T' ob q').sep R) := by
  obtain ⟨o1, h1, p1, _, b1⟩ := h.left
  have hTw := hT.kept h.keeps tab_nil
  refine (run_done hrun h1 hr hTw (tab_out hT tab_nil p1) most hm hm9).mono ?_
  rintro e w' ⟨r, rfl, x', hr', h'⟩
  exact ⟨r, rfl, x', hr', b1 _ _ h'⟩

set_option maxHeartbeats 4000000 in
set_option maxRecDepth 100000 in
theorem shown_calls (w : World) (hT : TabAt w) :
    Calls Tryd.prog 6 #[] w fun e w' => e = .returned (.bool true) ∧ Kept [] w w' := by
  have HT := Lib.hid hT
  clear hT
  go_enter Tryd.func6, Tryd.ntmps6
  go_wp2_with fail
  refine (new_ar w w (Kept.refl _ _) 20 (by omega) (by omega)).mono ?_
  rintro e w1 ⟨ab, rfl, hA⟩
  have HA := Lib.hid hA
  clear hA
  go_wp2_with fail
  refine (sknew_walk HA.out (fun _ => rfl) (by show 8 ≤ 20; omega) (by show 20 ≤ 65536; omega) HT.out tab_nil).mono ?_
  rintro e w2 ⟨b, x, rfl, hr, hX⟩
  have HX := Lib.hid hX
  have HR := Lib.hid hr
  clear hX hr HA
  go_wp2_with fail
  refine (insert_walk w2 (some ⟨b, 0, none⟩) kb 7 3).mono ?_
  rintro e w3 ⟨oa, rfl, hOA⟩
  have HX3 := Lib.hid (show Has [] w w3 (SkOp b x (ASk.fresh ab 20 0) oa opA) from HX.out.beside hOA)
  clear hOA HX
  go_wp2_with fail
  refine (insert_walk w3 (some ⟨b, 0, none⟩) kb 8 1).mono ?_
  rintro e w4 ⟨oB, rfl, hOB⟩
  have HX4 := Lib.hid (show Has [] w w4 ((SkOp b x (ASk.fresh ab 20 0) oa opA).sep (.sop oB (some ⟨b, 0, none⟩) opB)) from HX3.out.beside hOB)
  clear hOB HX3
  go_wp2_with fail
  refine (next_walk w4 (some ⟨b, 0, none⟩) ⟨#[]⟩).mono ?_
  rintro e w5 ⟨oc, rfl, hOC⟩
  have hX5 := show Has [] w w5 (((SkOp b x (ASk.fresh ab 20 0) oa opA).sep (.sop oB (some ⟨b, 0, none⟩) opB)).sep (.sop oc (some ⟨b, 0, none⟩) opC)) from HX4.out.beside hOC
  have HX5 := Lib.hid hX5
  clear hOC HX4
  obtain ⟨T1, q1, m1, T2, q2, m2, T3, q3, m3, hr1, hr2, hr3, hq1, hq2, hq3, hu⟩ := three_runs ab
  have HRN := Lib.hid (show _ ∧ _ ∧ _ ∧ _ ∧ _ ∧ _ from ⟨hr2, hr3, hq1, hq2, hq3, hu⟩)
  have hab : T3.ab = ab := by rw [runB_ab 40 T2 opC hr3, runB_ab 40 T1 opB hr2, runB_ab 40 _ opA hr1]; rfl
  have HD1 := Lib.hid (run_beside (n := 39) hr1 hX5.assoc HR.out HT.out 40 (by omega) (by omega))
  clear hX5 hr1 hr2 hr3 hq1 hq2 hq3 hu HX5
  go_wp2_with fail
  refine HD1.out.mono ?_
  rintro e w6 ⟨n1, rfl, x1, hr1, hX6⟩
  have HD2 := Lib.hid (run_beside (n := 39) HRN.out.1 (Has.assoc (Has.weaken hX6.assoc' (Part.Imp.sep (imp_swap3 _ _ _) (Part.Imp.refl _)))) hr1 HT.out 40 (by omega) (by omega))
  clear hX6 hr1 HD1
  go_wp2_with fail
  refine HD2.out.mono ?_
  rintro e w7 ⟨n2, rfl, x2, hr2, hX7⟩
  have HD3 := Lib.hid (run_beside (n := 39) HRN.out.2.1 (Has.assoc (Has.weaken (Has.weaken hX7.assoc' (imp_swap3 _ _ _)) (Part.Imp.sep (imp_swap3 _ _ _) (Part.Imp.refl _)))) hr2 HT.out 40 (by omega) (by omega))
  clear hX7 hr2 HD2
  go_wp2_with fail
  refine HD3.out.mono ?_
  rintro e w8 ⟨n3, rfl, x3, hr3, hX8⟩
  have HX8 := Lib.hid hX8
  have HR8 := Lib.hid hr3
  clear hX8 hr3 HD3
  obtain ⟨⟨a1, a2, a3, a4⟩, ⟨b1, b2, b3, b4⟩, ⟨c1, c2, c3, c4, c5⟩, hu⟩ := HRN.out.2.2
  obtain ⟨or8, hr8, _⟩ := HX8.out.right
  obtain ⟨oq1, hs1, _⟩ := hr8.right
  obtain ⟨oq2, hs2, _⟩ := hr8.left
  obtain ⟨oq3, hs3, _⟩ := HX8.out.left
  obtain ⟨oq4, hs4, _⟩ := so_op hs3
  obtain ⟨oq5, hs5, _⟩ := so_list hs3
  have c5 : q3.found = ⟨#[98]⟩ := c5
  have g1 : decide (0 < (n1 : Int) + 1) = true := decide_eq_true (by omega)
  have g2 : decide (0 < (n2 : Int) + 1) = true := decide_eq_true (by omega)
  have g3 : decide (0 < (n3 : Int) + 1) = true := decide_eq_true (by omega)
  have hg1 := ref_walk hs1 a1
  rw [a2, a3, a4] at hg1
  have HG1 := Lib.hid hg1
  have HG2 := Lib.hid (fun (W : World) (hk : Kept [] w8 W) => by have := ref_walk (hs2.quiet hk) b1; rw [b2, b3, b4] at this; exact this)
  have HG3 := Lib.hid (fun (W : World) (hk : Kept [] w8 W) => by have := ref_walk (hs4.quiet hk) c1; rw [c2, c3, c4, c5] at this; exact this)
  have HG4 := Lib.hid (fun (W : World) (hk : Kept [] w8 W) => by have := sk_used (hs5.quiet hk) HR8.out; rw [hu, hab] at this; exact this)
  have HKE := Lib.hid HX8.out.keeps
  clear a1 a2 a3 a4 b1 b2 b3 b4 c1 c2 c3 c4 c5 hu hr8 hs1 hs2 hs3 hs4 hs5 hg1 HX8
  go_wp2_with fail
  refine HG1.out.mono ?_
  rintro e w9 ⟨rfl, hk9⟩
  have HK9 := Lib.hid hk9
  clear hk9
  go_wp2_with fail
  refine (HG2.out _ HK9.out).mono ?_
  rintro e w10 ⟨rfl, hk10⟩
  have HK10 := Lib.hid (HK9.out.tr hk10)
  clear hk10
  go_wp2_with fail
  refine (HG3.out _ HK10.out).mono ?_
  rintro e w11 ⟨rfl, hk11⟩
  have HK11 := Lib.hid (HK10.out.tr hk11)
  clear hk11
  go_wp2_with fail
  refine (HG4.out _ HK11.out).mono ?_
  rintro e w12 ⟨rfl, rfl⟩
  go_wp2_with fail
  go_ret
  exact ⟨rfl, HKE.out.tr HK11.out⟩
end Go.Proofs.YtpckpgdkfimapaaDoor
