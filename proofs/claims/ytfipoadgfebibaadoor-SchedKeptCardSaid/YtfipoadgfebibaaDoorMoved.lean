/- The walk of 'moved': programs that touch cells of their own. -/
import Derived.Test.YtfipoadgfebibaaDoorMade
import Derived.Test.YtfipoadgfebibaaDoorRight
namespace Go.Proofs.YtfipoadgfebibaaDoor
open Go Go.RowKit
set_option linter.unusedVariables false

/-- Program i's operations touch the four cells from i * 4 on. -/
def Apart (i : Nat) (l : List OpV) : Prop := ∀ x ∈ l, 1 ≤ x.k ∧ x.k ≤ 4 ∧ (i : Int) * 4 ≤ x.c ∧ x.c < i * 4 + 4

theorem wrap64_in (n : Int) (h : -9223372036854775808 ≤ n ∧ n ≤ 9223372036854775807) : wrap64 n = n := by unfold wrap64; omega

theorem mod4 (k : Int) : 0 ≤ (wrap64 (k.tmod 4 + 4)).tmod 4 ∧ (wrap64 (k.tmod 4 + 4)).tmod 4 ≤ 3 := by
  have h1 := Int.tmod_lt_of_pos k (b := 4) (by omega)
  have h2 := Int.lt_tmod_of_pos k (b := 4) (by omega)
  generalize k.tmod 4 = m at *
  rw [wrap64_in (m + 4) (by omega), Int.tmod_eq_emod_of_nonneg (by omega)]
  omega

theorem info_op : (Tryd.prog.info? 38).map (fun i => (i.zero, i.size, i.bytes)) = some (some (.agg #[.int .i64 0, .int .i64 0, .int .u64 0, .int .u64 0]), 4, 32) := by kernel_rfl
theorem info_ops : (Tryd.prog.info? 35).map (fun i => (i.zero, i.size, i.bytes)) = some (some (.slice none 0 0), 1, 24) := by kernel_rfl

theorem cell_op (w : World) (n : Nat) (k c x y : Int) (t : TypeId) (hn : n = w.heap.size) : ∀ j u, (OpV.cells ⟨k, c, x, y⟩)[j]? = some u → (w.alloc (.cells #[.int .i64 k, .int .i64 c, .int .u64 x, .int .u64 y] t)).cell? ((⟨n, 0, none⟩ : Addr).add j) = some u := by
  subst hn
  intro j u hu
  have h : j < 4 := by have := (List.getElem?_eq_some_iff.1 hu).1; simpa [OpV.cells] using this
  have hb := Blk.made w #[.int .i64 k, .int .i64 c, .int .u64 x, .int .u64 y] t (fun i => (OpV.cells ⟨k, c, x, y⟩).getD i default) 4 rfl (fun i hi => by rcases (by omega : i = 0 ∨ i = 1 ∨ i = 2 ∨ i = 3) with rfl | rfl | rfl | rfl <;> rfl)
  rw [add0, hb.cell h]
  rw [List.getD_eq_getElem?_getD, hu]
  rfl

set_option maxHeartbeats 4000000 in
set_option maxRecDepth 100000 in
theorem moved_walk (w : World) (v : Value) (n : Nat) (L : Nat → Nat) (vs : Nat → Value) (P : Nat → Nat → OpV) (h : ProgsAt w v n L vs P) :
    Calls Tryd.prog 14 #[v] w fun e w' => ∃ lv m us Q, e = .returned lv ∧ m ≤ 8 ∧ (∀ i, i < m → (Q i).length ≤ 200 ∧ Apart i (Q i)) ∧ Has [] w w' (.progs lv m us Q) := by
  obtain ⟨p, cap, rfl, hn, hO, hC⟩ := h
  have HO := Lib.hid hO
  have HC := Lib.hid hC
  clear hO hC
  go_enter Tryd.func14, Tryd.ntmps14
  go_wp2_with fail
  go_loopg [3, 4] (n + 1) (fun k lv iv wr => ∃ (i : Nat) (us : Nat → Value) (Q : Nat → List OpV), i ≤ n ∧ i ≤ 8 ∧ k = n + 1 - i ∧ iv = .int .i64 i ∧ (∀ j, j < i → (Q j).length ≤ 200 ∧ Apart j (Q j)) ∧ Has [] w wr (.progs lv i us Q))
  case atStart => exact ⟨0, fun _ => default, fun _ => [], Nat.zero_le _, Nat.zero_le _, rfl, rfl, fun j hj => by omega, Has.nilProgs _ _ _⟩
  case round =>
    obtain ⟨i, us, Q, hi, hi8, hk, rfl, hQ, hX⟩ := hrel
    have HKK := Lib.hid hk
    have HQ := Lib.hid hQ
    have HX := Lib.hid hX
    clear hk hQ hX
    by_cases hlt : i < n
    · have hd : decide ((i : Int) < (n : Int)) = true := by simp; omega
      have hd' : decide (i < n) = true := by simp; omega
      by_cases h8 : i < 8
      · have hd8 : decide ((i : Int) < 8) = true := by simp; omega
        obtain ⟨ab, off, rfl, hab, hcells⟩ := HC.out (by omega)
        have HCI := Lib.hid (hcells i hlt)
        obtain ⟨q, qcap, hvs, hqn, hqr, hq⟩ := HO.out i hlt
        generalize hL : L i = l at *
        have HL := Lib.hid hL
        have HVS := Lib.hid hvs
        have HOQ := Lib.hid hq
        clear hcells hL hvs hq hqr
        go_wp2_with fail
        go_loopg [5, 6] (l + 1) (fun k uv jv wx => ∃ (j : Nat) (ql : List OpV), j ≤ l ∧ j ≤ 200 ∧ k = l + 1 - j ∧ jv = .int .i64 j ∧ ql.length = j ∧ Apart i ql ∧ Has [] w wx ((Part.progs u3 i us Q).sep (.ops uv ql)))
        case atStart => exact ⟨0, [], Nat.zero_le _, Nat.zero_le _, rfl, rfl, rfl, (fun x hx => by simp at hx), HX.out.beside (Has.nilOps _)⟩
        case round =>
          clear HX
          obtain ⟨j, ql, hj, hj2, hk2, rfl, hql, hap, hX⟩ := hrel
          have HKJ := Lib.hid hk2
          have HQL := Lib.hid hql
          have HAP := Lib.hid hap
          have HX := Lib.hid hX
          clear hk2 hql hap hX
          have c0 := HX.out.keeps.cell HCI.out (by simp)
          rw [HVS.out] at c0
          by_cases hjl : j < l
          · have e1 : decide ((j : Int) < (l : Int)) = true := by simp; omega
            have e1' : decide (j < l) = true := by simp; omega
            by_cases hj200 : j < 200
            · have e2 : decide ((j : Int) < 200) = true := by simp; omega
              obtain ⟨qb, qoff, rfl, hqb, hqc⟩ := HOQ.out (by omega)
              obtain ⟨x0, x1, x2, x3⟩ := hqc j hjl
              replace x0 := HX.out.keeps.cell x0 (by simp)
              replace x1 := HX.out.keeps.cell x1 (by simp)
              replace x2 := HX.out.keeps.cell x2 (by simp)
              replace x3 := HX.out.keeps.cell x3 (by simp)
              clear hqc
              obtain ⟨o9, ⟨fp, ⟨hrow, _⟩, _⟩, _, _, _⟩ := HX.out.right
              have HROW := Lib.hid ((hrow.alloc (.cells #[.int .i64 (wrap64 ((wrap64 ((P i j).k.tmod 4 + 4)).tmod 4 + 1)), .int .i64 (wrap64 (4 * (i : Int) + (wrap64 ((P i j).c.tmod 4 + 4)).tmod 4)), .int .u64 (P i j).x, .int .u64 (P i j).y] 38)).alloc (.cells #[.int .i64 (wrap64 ((wrap64 ((P i j).k.tmod 4 + 4)).tmod 4 + 1)), .int .i64 (wrap64 (4 * (i : Int) + (wrap64 ((P i j).c.tmod 4 + 4)).tmod 4)), .int .u64 (P i j).x, .int .u64 (P i j).y] 38))
              obtain ⟨i0, hi0, hz0, hz1, hz2⟩ := info_parts info_op
              clear hrow
              go_wp2_with (at_builtin; refine wpList_append_new rfl (.tmp 54) (.tmp 56) 35 rfl 38 i0 (.agg #[.int .i64 0, .int .i64 0, .int .u64 0, .int .u64 0]) 4 32 Tryd.underlying35 hi0 hz0 hz1 hz2 rfl (by decide) _ _ _ rfl HROW.out ⟨_, 0, none⟩ 1 1 (OpV.cells ⟨wrap64 ((wrap64 ((P i j).k.tmod 4 + 4)).tmod 4 + 1), wrap64 (4 * (i : Int) + (wrap64 ((P i j).c.tmod 4 + 4)).tmod 4), (P i j).x, (P i j).y⟩) rfl rfl (cell_op _ _ _ _ _ _ _ (by simp)) (by simp [OpV.cells, Value.oneCell']) (by rw [HQL.out]; simp only [maxLen]; omega) (by rw [HQL.out]; omega) ?_)
              intro v' w5 happ
              obtain ⟨oq, hq3, _, _, b3⟩ := (HX.out.alloc (.cells #[.int .i64 (wrap64 ((wrap64 ((P i j).k.tmod 4 + 4)).tmod 4 + 1)), .int .i64 (wrap64 (4 * (i : Int) + (wrap64 ((P i j).c.tmod 4 + 4)).tmod 4)), .int .u64 (P i j).x, .int .u64 (P i j).y] 38)).right
              have hX := b3 _ _ (Has.moreOp _ hq3 happ)
              have HX5 := Lib.hid hX
              clear happ hX b3 hq3 HROW
              go_wp2_with fail
              go_roundg (l + 1 - (j + 1))
              case measure => rw [HKJ.out]; omega
              case rel =>
                refine ⟨j + 1, _, by omega, by omega, rfl, by go_num, by rw [List.length_append, HQL.out]; rfl, ?_, HX5.out⟩
                intro x hx
                rcases List.mem_append.1 hx with hx | hx
                · exact HAP.out x hx
                · obtain rfl := List.mem_singleton.1 hx
                  have m1 := mod4 (P i j).k
                  have m2 := mod4 (P i j).c
                  dsimp only
                  generalize (wrap64 ((P i j).k.tmod 4 + 4)).tmod 4 = r1 at m1 ⊢
                  generalize (wrap64 ((P i j).c.tmod 4 + 4)).tmod 4 = r2 at m2 ⊢
                  rw [wrap64_in (r1 + 1) (by omega), wrap64_in (4 * (i : Int) + r2) (by omega)]
                  omega
            · have e2 : decide ((j : Int) < 200) = false := by simp; omega
              obtain ⟨o9, h9, _⟩ := HX.out.left
              obtain ⟨o8, ⟨fp, ⟨hrow, _⟩, _⟩, _⟩ := h9.left
              have HROW := Lib.hid hrow
              obtain ⟨pu, cu, rfl⟩ : ∃ p c, u5 = .slice p ql.length c := by
                obtain ⟨o7, ⟨fp', ⟨hr, _⟩, _⟩, _⟩ := HX.out.right
                rcases rowN_val hr with ⟨e, h0⟩ | ⟨g, c, e, _⟩
                · exact ⟨none, 0, by rw [h0]; exact e⟩
                · exact ⟨_, c, e⟩
              obtain ⟨i0, hi0, hz0, hz1, hz2⟩ := info_parts info_ops
              clear hrow h9
              go_wp2_with (at_builtin; refine wpList_append_new rfl (.tmp 58) (.tmp 60) 22 rfl 35 i0 (.slice none 0 0) 1 24 Tryd.underlying22 hi0 hz0 hz1 hz2 rfl (by decide) _ _ _ rfl (HROW.out.alloc _) ⟨_, 0, none⟩ 1 1 [.slice pu ql.length cu] rfl rfl (cell_one _ _ _ _ (by simp)) (by simp [Value.oneCell']) (by simp only [maxLen]; omega) (by omega) ?_)
              intro v' w5 happ
              have HX5 := Lib.hid (Has.moreProg _ HX.out happ)
              clear happ HROW
              go_wp2_with fail
              go_roundg (n + 1 - (i + 1))
              case measure => rw [HKK.out]; omega
              case rel =>
                refine ⟨i + 1, _, _, by omega, by omega, rfl, by go_num, fun d hd => ?_, HX5.out⟩
                unfold updF
                by_cases ed : d = i
                · subst ed; rw [if_pos rfl]; exact ⟨by rw [HQL.out]; exact hj2, HAP.out⟩
                · rw [if_neg ed]; exact HQ.out d (by omega)
          · have e1 : decide ((j : Int) < (l : Int)) = false := by simp; omega
            have e1' : decide (j < l) = false := by simp; omega
            obtain ⟨o9, h9, _⟩ := HX.out.left
            obtain ⟨o8, ⟨fp, ⟨hrow, _⟩, _⟩, _⟩ := h9.left
            have HROW := Lib.hid hrow
            obtain ⟨pu, cu, rfl⟩ : ∃ p c, u5 = .slice p ql.length c := by
              obtain ⟨o7, ⟨fp', ⟨hr, _⟩, _⟩, _⟩ := HX.out.right
              rcases rowN_val hr with ⟨e, h0⟩ | ⟨g, c, e, _⟩
              · exact ⟨none, 0, by rw [h0]; exact e⟩
              · exact ⟨_, c, e⟩
            obtain ⟨i0, hi0, hz0, hz1, hz2⟩ := info_parts info_ops
            clear hrow h9
            go_wp2_with (at_builtin; refine wpList_append_new rfl (.tmp 58) (.tmp 60) 22 rfl 35 i0 (.slice none 0 0) 1 24 Tryd.underlying22 hi0 hz0 hz1 hz2 rfl (by decide) _ _ _ rfl (HROW.out.alloc _) ⟨_, 0, none⟩ 1 1 [.slice pu ql.length cu] rfl rfl (cell_one _ _ _ _ (by simp)) (by simp [Value.oneCell']) (by simp only [maxLen]; omega) (by omega) ?_)
            intro v' w5 happ
            have HX5 := Lib.hid (Has.moreProg _ HX.out happ)
            clear happ HROW
            go_wp2_with fail
            go_roundg (n + 1 - (i + 1))
            case measure => rw [HKK.out]; omega
            case rel =>
              refine ⟨i + 1, _, _, by omega, by omega, rfl, by go_num, fun d hd => ?_, HX5.out⟩
              unfold updF
              by_cases ed : d = i
              · subst ed; rw [if_pos rfl]; exact ⟨by rw [HQL.out]; exact hj2, HAP.out⟩
              · rw [if_neg ed]; exact HQ.out d (by omega)
      · have hd8 : decide ((i : Int) < 8) = false := by simp; omega
        go_wp2_with fail
        go_ret
        exact ⟨_, _, _, _, rfl, hi8, HQ.out, HX.out⟩
    · have hd : decide ((i : Int) < (n : Int)) = false := by simp; omega
      have hd' : decide (i < n) = false := by simp; omega
      go_wp2_with fail
      go_ret
      exact ⟨_, _, _, _, rfl, hi8, HQ.out, HX.out⟩
end Go.Proofs.YtfipoadgfebibaaDoor
