/- The walk of the reference's Run. -/
import Derived.Test.YtfipoadgfebibaaDoorOutsPart
namespace Go.Proofs.YtfipoadgfebibaaDoor
open Go Go.RowKit
set_option linter.unusedVariables false

theorem info_boolr : (Tryd.prog.info? 4).map (fun i => (i.zero, i.size, i.bytes)) = some (some (.bool false), 1, 1) := by kernel_rfl

set_option maxHeartbeats 4000000 in
set_option maxRecDepth 100000 in
theorem rrun_no (w : World) (size : Int) (v pv : Value) (n : Nat) (L : Nat → Nat) (vs : Nat → Value) (P : Nat → Nat → OpV) (h : ProgsAt w v n L vs P) (hno : ¬ runOk size n L P) :
    Calls Tryd.prog 11 #[.int .i64 size, v, pv] w fun e w' => e = .returned (.tuple #[.slice none 0 0, .slice none 0 0, .int .i64 0, .int .i64 70]) ∧ Kept [] w w' := by
  have HH := Lib.hid h
  have HNO := Lib.hid hno
  clear h hno
  go_enter Tryd.func11, Tryd.ntmps11
  go_wp2_with fail
  refine (rright_walk w size v n L vs P HH.out).mono ?_
  rintro e w1 ⟨⟨b, rfl, hb⟩, hk⟩
  cases b with
  | true => exact absurd (hb.1 rfl) HNO.out
  | false =>
    have HK := Lib.hid hk
    clear hk hb
    go_wp2_with fail
    (try simp only [Exit.inBlock, Exit.then])
    refine bodyPost_ret (results_tmp4 rfl _ _ _) rfl ?_
    exact ⟨rfl, HK.out⟩

set_option maxHeartbeats 8000000 in
set_option maxRecDepth 100000 in
theorem rrun_calls (w : World) (size : Nat) (v pv : Value) (n : Nat) (L : Nat → Nat) (vs : Nat → Value) (P : Nat → Nat → OpV) (m : Nat) (z : Nat → Int) (h : ProgsAt w v n L vs P) (hp : PicksAt w pv m z) (hok : runOk size n L P) :
    Calls Tryd.prog 11 #[.int .i64 size, v, pv] w fun e w' => ∃ ov hv ovs, e = .returned (.tuple #[ov, hv, .int .i64 (runS n L P (allTaken size) z m).2.2, .int .i64 0]) ∧
      Has [] w w' ((Part.outs ov n ovs (runS n L P (allTaken size) z m).2.1).sep (.row 32 1 hv size ((List.range size).map fun c => .int .u64 (((runS n L P (allTaken size) z m).1.get c).getD 0)))) := by
  have HH := Lib.hid h
  obtain ⟨p, cap, rfl, hn, hO, hC⟩ := h
  obtain ⟨q, qcap, rfl, hm, hQ⟩ := hp
  have HO := Lib.hid hO
  have HC := Lib.hid hC
  have HQ := Lib.hid hQ
  have HOK := Lib.hid hok
  have hs1 : 1 ≤ size := by have := hok.1; omega
  have hs2 : size ≤ 65536 := by have := hok.2.1; omega
  have hn16 : n ≤ 16 := hok.2.2.1
  clear hn hO hC hQ hok
  go_enter Tryd.func11, Tryd.ntmps11
  go_wp2_with fail
  refine (rright_walk w size _ n L vs P HH.out).mono ?_
  rintro e w1 ⟨⟨b, rfl, hb⟩, hk⟩
  obtain rfl : b = true := hb.2 HOK.out
  have HK := Lib.hid hk
  clear hk hb
  have hmk := run_make_row' (P := Tryd.prog) 25 26 (.slice none 0 0) 24 Tryd.underlying25 info_rowu64 rfl .i64 .i64 n (by omega) (by omega)
  have hmk2 := run_make_row' (P := Tryd.prog) 26 32 (.int .u64 0) 8 Tryd.underlying26 info_u64 rfl .i64 .i64 size (by omega) (by omega)
  have hmk3 := run_make_row' (P := Tryd.prog) 39 4 (.bool false) 1 Tryd.underlying39 info_boolr rfl .i64 .i64 size (by omega) (by omega)
  go_wp2_with fail
  go_region
  have HX := Lib.hid (ref_made1 HK.out size hs2)
  clear HK
  generalize w1.heap.size + 1 + 1 = r at *
  generalize w1.heap.size + 1 = gt at *
  generalize w1.heap.size = gh at *
  rotate_left
  have HX := Lib.hid (ref_made2 HK.out size hs2)
  clear HK
  generalize w1.heap.size + 1 + 1 = r at *
  generalize w1.heap.size + 1 = gh at *
  generalize w1.heap.size = gt at *
  all_goals (
    go_wp2_with fail
    go_loopg [12] size (fun k iv wr => ∃ d : Nat, d ≤ size ∧ k = size - d ∧ iv = .int .i64 d ∧ Has [] w wr (refParts r size (.slice (some ⟨gh, 0, none⟩) size size) (.slice (some ⟨gt, 0, none⟩) size size) ((List.range size).map fun _ => 0) ((List.range size).map fun t => decide (t < d)) 0))
    case atStart => exact ⟨0, Nat.zero_le _, rfl, rfl, HX.out⟩
    case round =>
      clear HX
      obtain ⟨d, hd0, hk, rfl, hX⟩ := hrel
      have HKK := Lib.hid hk
      have HX := Lib.hid hX
      clear hk hX
      by_cases hlt : d < size
      · have hd : decide ((d : Int) < (size : Int)) = true := by simp; omega
        have hd' : decide (d < size) = true := by simp; omega
        have hb : 0 ≤ (d : Int) ∧ (d : Int) < (size : Int) := by omega
        obtain ⟨_, ⟨_, ⟨hblk, _⟩, _⟩, _⟩ := HX.out.left
        have c2 := hblk.cell (i := 2) (by omega)
        replace c2 : wr.cell? ⟨r, 2, none⟩ = some (.slice (some ⟨gt, 0, none⟩) size size) := c2
        obtain ⟨o1, h1, _, _, b1⟩ := HX.out.right
        obtain ⟨o2, h2, _, _, b2⟩ := h1.right
        have h3 : Has o2 wr wr (.row 4 1 (.slice (some ⟨gt, 0, none⟩) size size) size (((List.range size).map fun t => decide (t < d)).map Value.bool)) := by simpa using h2
        obtain ⟨y0, y1⟩ := h3.rowCell d (.bool false) (by rw [List.getElem?_map, List.getElem?_map, List.getElem?_range hlt]; simp)
        have h4 := h3.setRow d (.bool true) hlt
        rw [List.map_map, list_set_range size _ _ d (fun t => Value.bool (decide (t < d + 1))) (fun t ht => by
          by_cases e : t = d
          · subst e; simp
          · rw [if_neg e]; simp only [Function.comp]; congr 1; simp; omega)] at h4
        have h5 := b1 _ _ (b2 _ (.row 4 1 (.slice (some ⟨gt, 0, none⟩) size size) ((List.range size).map fun t => decide (t < d + 1)).length (((List.range size).map fun t => decide (t < d + 1)).map Value.bool)) (by rw [List.map_map]; simpa [Function.comp_def] using h4))
        have HX5 := Lib.hid h5
        clear hblk h1 b1 h2 b2 h3 h4 h5
        go_wp2_with fail
        go_roundg (size - (d + 1))
        case measure => rw [HKK.out]; omega
        case rel => exact ⟨d + 1, by omega, rfl, by go_num, HX5.out⟩
      · have hd : decide ((d : Int) < (size : Int)) = false := by simp; omega
        have hd' : decide (d < size) = false := by simp; omega
        obtain rfl : d = size := by omega
        have hA : Has [] w wr (.ref r (allTaken d)) := HX.out.weaken (refParts_ref (by simp) (by simp; omega) rfl rfl (allTaken_inv d hs1 hs2))
        have hB : ∀ e : TypeId, Has [] w (wr.alloc (.cells (madeCells #[.slice none 0 0] n) e)) ((Part.ref r (allTaken d)).sep ((Part.row e 1 (.slice (some ⟨wr.heap.size, 0, none⟩) n n) n ((List.range n).map fun _ => .slice none 0 0)).sep (.all n fun _ => .row 32 1 (.slice none 0 0) 0 []))) := fun e =>
          Has.assoc (Has.beside (Has.beside hA (Has.madeRow e (.slice none 0 0) n (by simp only [maxLen]; omega) (fun _ => .slice none 0 0) fun _ _ => rfl)) (Has.nils (Kept.refl _ _) _ n))
        have HB := Lib.hid hB
        clear hA hB HX HKK
        go_wp2_with fail
        generalize wr.heap.size = go at *
        go_loopg [14, 15] m (fun k mv kv wx => ∃ (a : Nat) (ov : Nat → Value), a ≤ m ∧ k = m - a ∧ mv = .int .i64 (runS n L P (allTaken d) z a).2.2 ∧ kv = .int .i64 a ∧ Has [] w wx ((Part.ref r (runS n L P (allTaken d) z a).1).sep (Part.outs (.slice (some ⟨go, 0, none⟩) n n) n ov (runS n L P (allTaken d) z a).2.1)))
        case atStart => exact ⟨0, fun _ => .slice none 0 0, Nat.zero_le _, rfl, rfl, rfl, HB.out _⟩
        case round =>
          clear HB
          obtain ⟨a, ov, ha, hk, rfl, rfl, hX⟩ := hrel
          have HKK := Lib.hid hk
          have HX := Lib.hid hX
          have hinv := runS_inv n L P (allTaken d) z a
          have hmany := hinv.many
          have HI := Lib.hid hinv
          clear hk hX hinv
          by_cases hlta : a < m
          · have hd : decide ((a : Int) < (m : Int)) = true := by simp; omega
            have hd' : decide (a < m) = true := by simp; omega
            obtain ⟨pb, poff, rfl, _, hcells⟩ := HQ.out (by omega)
            have c0 := HX.out.keeps.cell (hcells a hlta) (by simp)
            clear hcells
            by_cases hx0 : z a < 0
            · have d0 : decide (z a < 0) = true := by simpa using hx0
              go_wp2_with fail
              go_quiet (fail)
              go_wp2_with fail
              go_roundg (m - (a + 1))
              case measure => rw [HKK.out]; omega
              case rel => exact ⟨a + 1, ov, by omega, rfl, by rw [runS_skip (by omega)], by go_num, by rw [runS_skip (by omega)]; exact HX.out.drewN _⟩
            have d0 : decide (z a < 0) = false := by simpa using hx0
            by_cases hxn : (n : Int) ≤ z a
            · have d1 : decide (z a ≥ (n : Int)) = true := by simpa using hxn
              go_wp2_with fail
              go_quiet (fail)
              go_wp2_with fail
              go_roundg (m - (a + 1))
              case measure => rw [HKK.out]; omega
              case rel => exact ⟨a + 1, ov, by omega, rfl, by rw [runS_skip (by omega)], by go_num, by rw [runS_skip (by omega)]; exact HX.out.drewN _⟩
            obtain ⟨i, hzi⟩ := Int.eq_ofNat_of_zero_le (a := z a) (by omega)
            have HZI := Lib.hid hzi
            have hin : i < n := by omega
            have hb1 : 0 ≤ (i : Int) ∧ (i : Int) < (n : Int) := by omega
            have d1 : decide ((i : Int) ≥ (n : Int)) = false := by simp; omega
            have d0' : decide ((i : Int) < 0) = false := by simp
            rw [hzi] at c0
            clear hzi hxn hx0 d0
            obtain ⟨ab, off, rfl, hab, hcells⟩ := HC.out (by omega)
            have cp := HX.out.keeps.cell (hcells i hin) (by simp)
            obtain ⟨pq, pcap, hvs, hqn, hrg, hoc⟩ := HO.out i hin
            rw [hvs] at cp
            obtain ⟨oq, ocap, hov, co, _⟩ := outs_cells HX.out hin
            have hlen := HI.out.len i hin
            have hL6 := (HOK.out.2.2.2 i hin).1
            generalize hl : ((runS n L P (allTaken d) z a).2.1 i).length = l at *
            generalize hLi : L i = li at *
            have HL := Lib.hid hl
            have HLI := Lib.hid hLi
            have HCI := Lib.hid (hcells i hin)
            have HVS := Lib.hid hvs
            have HOC := Lib.hid hoc
            clear hl hLi hcells hvs hrg hoc hqn
            by_cases hfull : li ≤ l
            · have d2 : decide (l ≥ li) = true := by simpa using hfull
              have d2' : decide ((l : Int) ≥ (li : Int)) = true := by simp; omega
              go_wp2_with fail
              go_quiet (fail)
              go_wp2_with fail
              go_roundg (m - (a + 1))
              case measure => rw [HKK.out]; omega
              case rel =>
                have hsk : runS n L P (allTaken d) z (a + 1) = runS n L P (allTaken d) z a := runS_skip (by rw [HZI.out, Int.toNat_natCast, HL.out, HLI.out]; omega)
                exact ⟨a + 1, ov, by omega, rfl, by rw [hsk], by go_num, by rw [hsk]; exact HX.out.drewN _⟩
            have d2 : decide (l ≥ li) = false := by simp; omega
            have d2' : decide ((l : Int) ≥ (li : Int)) = false := by simp; omega
            obtain ⟨qb, qoff, rfl, hqb, hqc⟩ := HOC.out (by omega)
            have HOP := Lib.hid (hqc l (by omega))
            have hbl : 0 ≤ (l : Int) ∧ (l : Int) < (li : Int) := by omega
            clear hqc hlen
            generalize hz : doS (runS n L P (allTaken d) z a).1 (P i l).k (P i l).c (P i l).x (P i l).y = zz
            obtain ⟨a1, a2, S'⟩ := zz
            have HZ := Lib.hid hz
            have HOV := Lib.hid hov
            clear hz hov
            go_wp2_with fail
            go_quiet (fail)
            have HX2 := Lib.hid (HX.out.drewN nq)
            replace cp : (wr.drewN nq).cell? ⟨ab, off + i, none⟩ = some (.slice (some ⟨qb, qoff, none⟩) li pcap) := cp
            replace co : (wr.drewN nq).cell? ⟨go, i, none⟩ = some (.slice oq l ocap) := co
            have x0 := HX2.out.keeps.cell HOP.out.1 (by simp)
            have x1 := HX2.out.keeps.cell HOP.out.2.1 (by simp)
            have x2 := HX2.out.keeps.cell HOP.out.2.2.1 (by simp)
            have x3 := HX2.out.keeps.cell HOP.out.2.2.2 (by simp)
            clear c0 HX
            generalize wr.drewN nq = w2 at *
            go_wp2_with fail
            go_region_held3 (fun w' => w'.cell? ⟨ab, off + i, none⟩ = some (.slice (some ⟨qb, qoff, none⟩) li pcap) ∧ w'.cell? ⟨go, i, none⟩ = some (.slice oq l ocap) ∧
                w'.cell? ⟨qb, qoff + l * 4, none⟩ = some (.int .i64 (P i l).k) ∧ w'.cell? ⟨qb, qoff + l * 4 + 1, none⟩ = some (.int .i64 (P i l).c) ∧ w'.cell? ⟨qb, qoff + l * 4 + 2, none⟩ = some (.int .u64 (P i l).x) ∧ w'.cell? ⟨qb, qoff + l * 4 + 3, none⟩ = some (.int .u64 (P i l).y))
              (first | exact ⟨cp, co, x0, x1, x2, x3⟩ | exact ⟨dp, do_, y0, y1, y2, y3⟩)
              (first | (go_at_call 24
                        refine (outs_do (HX2.out.quiet ((Kept.refl _ _).drew)) (P i l).k (P i l).c (P i l).x (P i l).y).mono ?_
                        rintro e w4 ⟨rfl, hX⟩
                        rw [HZ.out] at hX
                        simp only [HZ.out]
                        have HX4 := Lib.hid hX
                        clear hX
                        obtain ⟨oq2, ocap2, hov2, do_, _⟩ := outs_cells HX4.out hin
                        rw [HL.out] at hov2 do_
                        obtain ⟨rfl, rfl⟩ : oq = oq2 ∧ ocap = ocap2 := by have := HOV.out.symm.trans hov2; simpa using this
                        clear hov2
                        have dp := HX4.out.keeps.cell HCI.out (by simp)
                        rw [HVS.out] at dp
                        have y0 := HX4.out.keeps.cell HOP.out.1 (by simp)
                        have y1 := HX4.out.keeps.cell HOP.out.2.1 (by simp)
                        have y2 := HX4.out.keeps.cell HOP.out.2.2.1 (by simp)
                        have y3 := HX4.out.keeps.cell HOP.out.2.2.2 (by simp)))
            obtain ⟨_, _, _, _, hrow⟩ := outs_cells HX4.out hin
            replace hrow := hrow.alloc (.cells #[.int .u64 a1] 32)
            rw [HOV.out, HL.out] at hrow
            have HROW := Lib.hid hrow
            clear cp co x0 x1 x2 x3 dp do_ y0 y1 y2 y3 HX2 hrow
            obtain ⟨i0, hi0, hz0, hz1, hz2⟩ := info_parts info_u64
            go_wp2_with (at_builtin; refine wpList_append_new rfl (.tmp 97) (.tmp 99) 26 rfl 32 i0 (.int .u64 0) 1 8 Tryd.underlying26 hi0 hz0 hz1 hz2 rfl (by decide) _ _ _ rfl HROW.out ⟨_, 0, none⟩ 1 1 [.int .u64 a1] rfl rfl (cell_one _ _ _ _ (by simp)) (by simp [Value.oneCell']) (by simp only [maxLen]; omega) (by omega) ?_)
            intro v' w5 happ
            rw [← HOV.out, ← HL.out] at happ
            obtain ⟨⟨z0, z1⟩, hpush⟩ := outs_push _ HX4.out hin happ
            obtain ⟨g', cap', rfl, _, _, _, _, _⟩ := row_out happ.row (by omega)
            rw [HOV.out] at z0
            have HP := Lib.hid hpush
            clear happ hpush HROW
            go_wp2_with fail
            go_roundg (m - (a + 1))
            case measure => rw [HKK.out]; omega
            case rel =>
              have hst : runS n L P (allTaken d) z (a + 1) = _ := runS_step (a1 := a1) (a2 := a2) (S' := S') HZI.out hin (by rw [HL.out, HLI.out]; omega) (by rw [HL.out]; exact HZ.out)
              refine ⟨a + 1, updF ov i (.slice (some ⟨g', 0, none⟩) (((runS n L P (allTaken d) z a).2.1 i).length + 1) cap'), by omega, rfl, by rw [hst]; go_num, by go_num, ?_⟩
              rw [hst]
              exact HP.out
          · have hd : decide ((a : Int) < (m : Int)) = false := by simp; omega
            have hd' : decide (a < m) = false := by simp; omega
            obtain rfl : a = m := by omega
            obtain ⟨hv, c1, hE⟩ := ref_end HX.out (d := d) HI.out.size (fun c hc => by rw [HI.out.some c]; simp [allTaken, hc])
            have HE := Lib.hid hE
            clear hE HX
            go_wp2_with fail
            go_quiet (fail)
            go_wp2_with fail
            (try simp only [Exit.inBlock, Exit.then])
            refine bodyPost_ret (results_tmp4 rfl _ _ _) rfl ?_
            exact ⟨_, _, ov, rfl, HE.out.drewN _⟩)
end Go.Proofs.YtfipoadgfebibaaDoor
