/- The walk of the program's Run. -/
import Derived.Test.YtfipoadgfebibaaDoorRunS
import Derived.Deep.OwnRows
namespace Go.Proofs.YtfipoadgfebibaaDoor
open Go Go.RowKit
set_option linter.unusedVariables false

/-- Four results. -/
theorem results_tmp4 {fn : Func} {t u v x : Tmp} (h : fn.results = #[.tmp t, .tmp u, .tmp v, .tmp x]) (tmps : Array Value) (P : Program) (w : World) :
    (Go.results fn tmps).run P w = .ok (.tuple #[tmps.getD t undef, tmps.getD u undef, tmps.getD v undef, tmps.getD x undef]) w := by
  simp [Go.results, h, Sem.run_pure]

theorem info_task : (Tryd.prog.info? 57).map (fun i => (i.zero, i.size, i.bytes)) = some (some .nilIface, 1, 16) := by kernel_rfl
theorem info_rowu64 : (Tryd.prog.info? 26).map (fun i => (i.zero, i.size, i.bytes)) = some (some (.slice none 0 0), 1, 24) := by kernel_rfl

theorem assert_task (a : Option Addr) (w : World) : (Instr.typeAssert (.iface 52 (.pointer a)) 57 52 true).run Tryd.prog w = .ok (.tuple #[.pointer a, .bool true]) w := by kernel_rfl

set_option maxHeartbeats 4000000 in
set_option maxRecDepth 100000 in
theorem run_no (w : World) (size : Int) (v pv : Value) (n : Nat) (L : Nat → Nat) (vs : Nat → Value) (P : Nat → Nat → OpV) (h : ProgsAt w v n L vs P) (hno : ¬ runOk size n L P) :
    Calls Tryd.prog 10 #[.int .i64 size, v, pv] w fun e w' => e = .returned (.tuple #[.slice none 0 0, .slice none 0 0, .int .i64 0, .int .i64 70]) ∧ Kept [] w w' := by
  have HH := Lib.hid h
  have HNO := Lib.hid hno
  clear h hno
  go_enter Tryd.func10, Tryd.ntmps10
  go_wp2_with fail
  refine (right_walk w size v n L vs P HH.out).mono ?_
  rintro e w1 ⟨⟨b, rfl, hb⟩, hk⟩
  cases b with
  | true => exact absurd (hb.1 rfl) HNO.out
  | false =>
    have HK := Lib.hid hk
    clear hk hb
    go_wp2_with fail
    (try simp only [Exit.inBlock, Exit.then])
    refine bodyPost_ret (results_tmp4 rfl _ _ _) rfl ?_
    exact ⟨rfl, HK.out⟩

set_option maxHeartbeats 8000000 in
set_option maxRecDepth 100000 in
theorem run_calls (w : World) (hT : TabAt w) (size : Nat) (v pv : Value) (n : Nat) (L : Nat → Nat) (vs : Nat → Value) (P : Nat → Nat → OpV) (m : Nat) (z : Nat → Int) (h : ProgsAt w v n L vs P) (hp : PicksAt w pv m z) (hok : runOk size n L P) :
    Calls Tryd.prog 10 #[.int .i64 size, v, pv] w fun e w' => ∃ ov hv ovs, e = .returned (.tuple #[ov, hv, .int .i64 (runS n L P (allTaken size) z m).2.2, .int .i64 0]) ∧
      Has [] w w' ((Part.outs ov n ovs (runS n L P (allTaken size) z m).2.1).sep (.row 32 1 hv size ((List.range size).map fun c => .int .u64 (((runS n L P (allTaken size) z m).1.get c).getD 0)))) := by
  have HH := Lib.hid h
  have HT := Lib.hid hT
  obtain ⟨p, cap, rfl, hn, hO, hC⟩ := h
  obtain ⟨q, qcap, rfl, hm, hQ⟩ := hp
  have HO := Lib.hid hO
  have HC := Lib.hid hC
  have HQ := Lib.hid hQ
  have HOK := Lib.hid hok
  have hs1 : 1 ≤ size := by have := hok.1; omega
  have hs2 : size ≤ 65536 := by have := hok.2.1; omega
  have hn16 : n ≤ 16 := hok.2.2.1
  clear hT hn hO hC hQ hok
  go_enter Tryd.func10, Tryd.ntmps10
  go_wp2_with fail
  refine (right_walk w size _ n L vs P HH.out).mono ?_
  rintro e w1 ⟨⟨b, rfl, hb⟩, hk⟩
  obtain rfl : b = true := hb.2 HOK.out
  have HK := Lib.hid hk
  clear hk hb
  go_wp2_with fail
  refine (own_new HK.out size (by omega) (by omega)).mono ?_
  rintro e w2 ⟨b, rfl, hO⟩
  have HA := Lib.hid hO
  clear hO HK
  go_wp2_with fail
  go_loopg [38] size (fun k iv wr => ∃ i : Nat, i ≤ size ∧ k = size - i ∧ iv = .int .i64 i ∧ Own w wr b ⟨size, fun c => if c < i then some 0 else none, 0⟩)
  case atStart =>
    refine ⟨0, Nat.zero_le _, rfl, rfl, ?_⟩
    have := HA.out
    simpa using this
  case round =>
    clear HA
    obtain ⟨i, hi, hk, rfl, hO⟩ := hrel
    have HKK := Lib.hid hk
    have HA := Lib.hid hO
    clear hk hO
    by_cases hlt : i < size
    · have hd : decide ((i : Int) < (size : Int)) = true := by simp; omega
      have hd' : decide (i < size) = true := by simp; omega
      go_wp2_with fail
      refine (own_alloc HA.out HT.out i hlt (by simp) (fun d hd => by simp [hd])).mono ?_
      rintro e w3 ⟨rfl, hO⟩
      clear HA
      have HA := Lib.hid hO
      clear hO
      go_wp2_with fail
      go_roundg (size - (i + 1))
      case measure => rw [HKK.out]; omega
      case rel =>
        refine ⟨i + 1, by omega, rfl, by go_num, ?_⟩
        have := HA.out
        have e : (Ar.put ⟨size, fun c => if c < i then some 0 else none, 0⟩ i 0) = ⟨size, fun c => if c < i + 1 then some 0 else none, 0⟩ := by
          unfold Ar.put
          congr 1
          funext c
          by_cases e : c = i
          · subst e; simp
          · rw [if_neg e]
            show (if c < i then some 0 else none) = _
            by_cases e2 : c < i
            · rw [if_pos e2, if_pos (by omega)]
            · rw [if_neg e2, if_neg (by omega)]
        rw [e] at this
        exact this
    · have hd : decide ((i : Int) < (size : Int)) = false := by simp; omega
      have hd' : decide (i < size) = false := by simp; omega
      obtain rfl : i = size := by omega
      have hA0 : RunAt w wr b (allTaken i) 0 (fun _ => 0) vs (fun _ => .slice none 0 0) (fun _ => []) (tasksP (.slice none 0 0) 0 (fun _ => 0)) := by
        obtain ⟨fp, hA, hn, k⟩ := HA.out
        refine ⟨fp, ⟨fp, [], ⟨fp, [], hA, ⟨fun _ => [], fun i hi => by omega, fun i j hi => by omega, fun x => by simp⟩, by simp, by simp⟩, ⟨World.ownsRow_nil _ _ _ _, by simp [rowsOf, Value.ownBlock]⟩, by simp, by simp⟩, hn, k⟩
      have HR := Lib.hid hA0
      clear HA hA0 HKK hd hd'
      obtain ⟨i0, hi0, hz0, hz1, hz2⟩ := info_parts info_task
      go_wp2_with fail
      go_loopg [12, 45] n (fun k tv iv wr => ∃ (j : Nat) (tb : Nat → Nat), j ≤ n ∧ k = n - j ∧ iv = .int .i64 j ∧ RunAt w wr b (allTaken i) j tb vs (fun _ => .slice none 0 0) (fun _ => []) (tasksP tv j tb))
      case atStart => exact ⟨0, fun _ => 0, Nat.zero_le _, rfl, rfl, HR.out⟩
      case round =>
        clear HR
        obtain ⟨j, tb, hj, hk, rfl, hR⟩ := hrel
        have HKK := Lib.hid hk
        have HR := Lib.hid hR
        clear hk hR
        by_cases hlt : j < n
        · have hd : decide ((j : Int) < (n : Int)) = true := by simp; omega
          have hd' : decide (j < n) = true := by simp; omega
          obtain ⟨ab, off, rfl, hab, hcells⟩ := HC.out (by omega)
          have c0 := HR.out.keeps.cell (hcells j hlt) (by simp)
          clear hcells
          have hrow := HR.out.tasksRow
          have HROW := Lib.hid hrow
          obtain ⟨pj, capj, hvj, _⟩ := HO.out j hlt
          rw [hvj] at c0
          have HVJ := Lib.hid hvj
          clear hrow hvj
          have HN16 : j + 1 ≤ 16 := by omega
          go_wp2_with (at_builtin; refine wpList_append_new rfl (.tmp 49) (.tmp 55) 51 rfl 57 i0 .nilIface 1 16 Tryd.underlying51 hi0 hz0 hz1 hz2 rfl (by decide) _ _ _ rfl ((HROW.out.alloc _).alloc _) ⟨_, 0, none⟩ 1 1 [.iface 52 (.pointer (some ⟨wr.heap.size, 0, none⟩))] rfl rfl ?d1 ?d2 ?d3 ?d4 ?_)
          try (case d1 => (exact cell_one _ _ _ _ (by simp)))
          try (case d2 => (simp [Value.oneCell']))
          try (case d3 => (simp only [maxLen]; omega))
          try (case d4 => (omega))
          intro v' w5 happ
          rw [← HVJ.out] at happ
          have hR5 := HR.out.moreTask _ happ
          have HR5 := Lib.hid hR5
          clear happ hR5 HROW
          go_wp2_with fail
          go_roundg (n - (j + 1))
          case measure => rw [HKK.out]; omega
          case rel => exact ⟨j + 1, _, by omega, rfl, by go_num, HR5.out⟩
        · have hd : decide ((j : Int) < (n : Int)) = false := by simp; omega
          have hd' : decide (j < n) = false := by simp; omega
          obtain rfl : j = n := by omega
          clear HKK
          go_wp2_with fail
          go_loopg [15, 60] m (fun k mv kv wr => ∃ (a : Nat) (ov : Nat → Value), a ≤ m ∧ k = m - a ∧ mv = .int .i64 (runS j L P (allTaken i) z a).2.2 ∧ kv = .int .i64 a ∧ RunAt w wr b (runS j L P (allTaken i) z a).1 j tb vs ov (runS j L P (allTaken i) z a).2.1 (tasksP u12 j tb))
          case atStart => exact ⟨0, fun _ => .slice none 0 0, Nat.zero_le _, rfl, rfl, rfl, HR.out⟩
          case round =>
            clear HR
            obtain ⟨a, ov, ha, hk, rfl, rfl, hR⟩ := hrel
            have HKK := Lib.hid hk
            have HR := Lib.hid hR
            have hinv := runS_inv j L P (allTaken i) z a
            have hmany := hinv.many
            have HI := Lib.hid hinv
            clear hk hR hinv
            by_cases hlta : a < m
            · have hd : decide ((a : Int) < (m : Int)) = true := by simp; omega
              have hd' : decide (a < m) = true := by simp; omega
              obtain ⟨ab, off, rfl, hab, hcells⟩ := HQ.out (by omega)
              have c0 := HR.out.keeps.cell (hcells a hlta) (by simp)
              clear hcells
              go_wp2_with fail
              refine (turn_calls HR.out HT.out (L := L) (P := P) hn16 HO.out (fun i hi => (HOK.out.2.2.2 i hi).1) HI.out.len (z a)).mono ?_
              rintro e w4 ⟨rfl, ov', hR⟩
              have hs : runS j L P (allTaken i) z (a + 1) = ((turnS j L P (runS j L P (allTaken i) z a).1 (runS j L P (allTaken i) z a).2.1 (z a)).2.1, (turnS j L P (runS j L P (allTaken i) z a).1 (runS j L P (allTaken i) z a).2.1 (z a)).2.2,
                (runS j L P (allTaken i) z a).2.2 + if (turnS j L P (runS j L P (allTaken i) z a).1 (runS j L P (allTaken i) z a).2.1 (z a)).1 = true then 1 else 0) := rfl
              have HS := Lib.hid hs
              have HR1 := Lib.hid hR
              clear HR HI hR hs c0
              generalize turnS j L P (runS j L P (allTaken i) z a).1 (runS j L P (allTaken i) z a).2.1 (z a) = t at *
              obtain ⟨tk, S1, o1⟩ := t
              cases tk with
              | true =>
                go_wp2_with fail
                go_roundg (m - (a + 1))
                case measure => rw [HKK.out]; omega
                case rel =>
                  refine ⟨a + 1, ov', by omega, rfl, ?_, by go_num, ?_⟩
                  · rw [HS.out]; simp only [if_true]; go_num
                  · rw [HS.out]; exact HR1.out
              | false =>
                go_wp2_with fail
                go_roundg (m - (a + 1))
                case measure => rw [HKK.out]; omega
                case rel =>
                  refine ⟨a + 1, ov', by omega, rfl, ?_, by go_num, ?_⟩
                  · rw [HS.out]; rfl
                  · rw [HS.out]; exact HR1.out
            · have hd : decide ((a : Int) < (m : Int)) = false := by simp; omega
              have hd' : decide (a < m) = false := by simp; omega
              obtain rfl : a = m := by omega
              obtain ⟨tq, tcap, htv, htc⟩ := HR.out.tasks
              have hmk := run_make_row' (P := Tryd.prog) 25 26 (.slice none 0 0) 24 Tryd.underlying25 info_rowu64 rfl .i64 .i64 j (by omega) (by omega)
              have hmk2 := run_make_row' (P := Tryd.prog) 26 32 (.int .u64 0) 8 Tryd.underlying26 info_u64 rfl .i64 .i64 i (by omega) (by omega)
              subst htv
              have HTC := Lib.hid htc
              clear htc HKK hd hd'
              generalize hst : runS j L P (allTaken i) z a = st at *
              obtain ⟨St, outs, many⟩ := st
              have HST := Lib.hid hst
              have hta := assert_task
              clear hst
              have hX0 : ∀ e : TypeId, Has [] w (wr.alloc (.cells (madeCells #[.slice none 0 0] j) e)) ((RunP b St j tb vs ov outs (tasksP (.slice tq j tcap) j tb)).sep (.row e 1 (.slice (some ⟨wr.heap.size, 0, none⟩) j j) j ((List.range j).map fun d => if d < 0 then ov d else .slice none 0 0))) := fun e =>
                Has.beside (A := RunP b St j tb vs ov outs (tasksP (.slice tq j tcap) j tb)) HR.out (Has.madeRow e (.slice none 0 0) j (by simp only [maxLen]; omega) _ fun d _ => by simp)
              have HX0 := Lib.hid hX0
              clear hX0 HR HTC
              go_wp2_with fail
              generalize wr.heap.size = gb at *
              go_loopg [75] j (fun k iv wx => ∃ c : Nat, c ≤ j ∧ k = j - c ∧ iv = .int .i64 c ∧ Has [] w wx ((RunP b St j tb vs ov outs (tasksP (.slice tq j tcap) j tb)).sep (.row 26 1 (.slice (some ⟨gb, 0, none⟩) j j) j ((List.range j).map fun d => if d < c then ov d else .slice none 0 0))))
              case atStart => exact ⟨0, Nat.zero_le _, rfl, rfl, HX0.out _⟩
              case round =>
                clear HX0
                obtain ⟨c, hc, hk, rfl, hX⟩ := hrel
                have HKK := Lib.hid hk
                have HX := Lib.hid hX
                clear hk hX
                by_cases hltc : c < j
                · have hd : decide ((c : Int) < (j : Int)) = true := by simp; omega
                  have hd' : decide (c < j) = true := by simp; omega
                  have hR : RunAt w wr b St j tb vs ov outs (tasksP (.slice tq j tcap) j tb) := HX.out.fst
                  obtain ⟨_, _, ht0, ht1⟩ := hR.tasks
                  cases ht0
                  obtain ⟨tg, rfl, ht2⟩ := ht1 (by omega)
                  have x0 := ht2 c hltc
                  obtain ⟨c0, c1, c2, hr⟩ := hR.cells hltc
                  have hov : ∃ q cap, ov c = .slice q (outs c).length cap := by
                    rcases row_val hr with ⟨h1, h0⟩ | ⟨g, cap, h1, _⟩
                    · exact ⟨none, 0, by rw [h0]; exact h1⟩
                    · exact ⟨_, _, h1⟩
                  obtain ⟨oq, ocap, hoc⟩ := hov
                  rw [hoc] at c2
                  have HOC := Lib.hid hoc
                  obtain ⟨o2, hrow, _, _, back2⟩ := HX.out.right
                  obtain ⟨y0, y1⟩ := hrow.rowCell c (.slice none 0 0) (by rw [List.getElem?_map, List.getElem?_range hltc]; simp)
                  have hset := back2 _ _ (hrow.setRow c (.slice oq (outs c).length ocap) hltc)
                  rw [list_set_range j _ _ c (fun d => if d < c + 1 then ov d else .slice none 0 0) (fun d hd => by
                    by_cases e : d = c
                    · subst e; rw [if_pos rfl, if_pos (by omega)]; exact HOC.out
                    · rw [if_neg e]
                      by_cases e2 : d < c
                      · rw [if_pos e2, if_pos (by omega)]
                      · rw [if_neg e2, if_neg (by omega)])] at hset
                  have HSET := Lib.hid hset
                  have hb1 : 0 ≤ (c : Int) ∧ (c : Int) < (j : Int) := by omega
                  clear hR hr hoc hrow back2 hset ht1 ht2 c0 c1
                  go_wp2_with fail
                  go_roundg (j - (c + 1))
                  case measure => rw [HKK.out]; omega
                  case rel => exact ⟨c + 1, by omega, rfl, by go_num, HSET.out⟩
                · have hd : decide ((c : Int) < (j : Int)) = false := by simp; omega
                  have hd' : decide (c < j) = false := by simp; omega
                  obtain rfl : c = j := by omega
                  have hY0 : ∀ e : TypeId, Has [] w (wr.alloc (.cells (madeCells #[.int .u64 0] i) e)) (((RunP b St c tb vs ov outs (tasksP (.slice tq c tcap) c tb)).sep (.row 26 1 (.slice (some ⟨gb, 0, none⟩) c c) c ((List.range c).map fun d => if d < c then ov d else .slice none 0 0))).sep
                      (.row e 1 (.slice (some ⟨wr.heap.size, 0, none⟩) i i) i ((List.range i).map fun d => if d < 0 then .int .u64 ((St.get d).getD 0) else .int .u64 0))) := fun e =>
                    Has.beside HX.out (Has.madeRow e (.int .u64 0) i (by simp only [maxLen]; omega) _ fun d _ => by simp)
                  have HY0 := Lib.hid hY0
                  clear hY0 HX HKK
                  go_wp2_with fail
                  generalize wr.heap.size = gh at *
                  go_loopg [98] i (fun k iv wx => ∃ (d : Nat) (S2 : Ar), d ≤ i ∧ k = i - d ∧ iv = .int .i64 d ∧ S2.get = St.get ∧ Has [] w wx (((RunP b S2 c tb vs ov outs (tasksP (.slice tq c tcap) c tb)).sep (.row 26 1 (.slice (some ⟨gb, 0, none⟩) c c) c ((List.range c).map fun d => if d < c then ov d else .slice none 0 0))).sep
                      (.row 32 1 (.slice (some ⟨gh, 0, none⟩) i i) i ((List.range i).map fun t => if t < d then .int .u64 ((St.get t).getD 0) else .int .u64 0))))
                  case atStart => exact ⟨0, St, Nat.zero_le _, rfl, rfl, rfl, HY0.out _⟩
                  case round =>
                    clear HY0
                    obtain ⟨d, S2, hd2, hk, rfl, hS2, hY⟩ := hrel
                    have HKK := Lib.hid hk
                    have HS2 := Lib.hid hS2
                    have HY := Lib.hid hY
                    clear hk hS2 hY
                    by_cases hltd : d < i
                    · have hdd : decide ((d : Int) < (i : Int)) = true := by simp; omega
                      have hdd' : decide (d < i) = true := by simp; omega
                      have hsome : (St.get d).isSome = true := by
                        rw [HI.out.some d]; simp [allTaken, hltd]
                      obtain ⟨x, hx⟩ := Option.isSome_iff_exists.1 hsome
                      have HXX := Lib.hid hx
                      have hb1 : 0 ≤ (d : Int) ∧ (d : Int) < (i : Int) := by omega
                      clear hsome hx
                      go_wp2_with fail
                      obtain ⟨o1, h1, _, _, b1⟩ := HY.out.left
                      obtain ⟨o2, h2, _, _, b2⟩ := h1.left
                      obtain ⟨o3, h3, _, _, b3⟩ := h2.left
                      obtain ⟨o4, h4, _, _, b4⟩ := h3.left
                      refine (own_load (S := S2) h4 d x (by rw [HS2.out]; exact HXX.out)).mono ?_
                      rintro e w5 ⟨rfl, hO⟩
                      have hY := b1 _ _ (b2 _ _ (b3 _ _ (b4 _ _ (Has.ofOwn hO))))
                      clear h1 h2 h3 h4 b1 b2 b3 b4 hO HY
                      obtain ⟨o6, hrow, _, _, back6⟩ := hY.right
                      obtain ⟨y0, y1⟩ := hrow.rowCell d (.int .u64 0) (by rw [List.getElem?_map, List.getElem?_range hltd]; simp)
                      have hset := back6 _ _ (hrow.setRow d (.int .u64 x) hltd)
                      rw [list_set_range i _ _ d (fun t => if t < d + 1 then .int .u64 ((St.get t).getD 0) else .int .u64 0) (fun t ht => by
                        by_cases e : t = d
                        · subst e; rw [if_pos rfl, if_pos (by omega), HXX.out]; rfl
                        · rw [if_neg e]
                          by_cases e2 : t < d
                          · rw [if_pos e2, if_pos (by omega)]
                          · rw [if_neg e2, if_neg (by omega)])] at hset
                      have HSET := Lib.hid hset
                      clear hrow back6 hset hY
                      go_wp2_with fail
                      go_roundg (i - (d + 1))
                      case measure => rw [HKK.out]; omega
                      case rel => exact ⟨d + 1, S2.step, by omega, rfl, by go_num, HS2.out, HSET.out⟩
                    · have hdd : decide ((d : Int) < (i : Int)) = false := by simp; omega
                      have hdd' : decide (d < i) = false := by simp; omega
                      obtain rfl : d = i := by omega
                      go_wp2_with fail
                      (try simp only [Exit.inBlock, Exit.then])
                      refine bodyPost_ret (results_tmp4 rfl _ _ _) rfl ?_
                      rw [HST.out]
                      refine ⟨_, _, ov, rfl, ?_⟩
                      have e1 : ((List.range c).map fun d => if d < c then ov d else .slice none 0 0) = (List.range c).map ov := List.map_congr_left fun t ht => by rw [if_pos (List.mem_range.1 ht)]
                      have e2 : ((List.range d).map fun t => if t < d then Value.int .u64 ((St.get t).getD 0) else .int .u64 0) = (List.range d).map fun t => .int .u64 ((St.get t).getD 0) := List.map_congr_left fun t ht => by rw [if_pos (List.mem_range.1 ht)]
                      have hY := HY.out
                      rw [e1, e2] at hY
                      exact hY.weaken (Part.Imp.sep (outs_imp _ _ _ _ _ _ _ _ _ _ rfl) (Part.Imp.refl _))
end Go.Proofs.YtfipoadgfebibaaDoor
