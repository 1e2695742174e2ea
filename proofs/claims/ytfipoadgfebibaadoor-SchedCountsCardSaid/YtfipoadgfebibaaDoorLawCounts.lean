/- The walk of SchedCounts: true at all counts and picks, and nothing that was there has changed. -/
import Derived.Test.YtfipoadgfebibaaDoorPlainCounts
import Derived.Test.YtfipoadgfebibaaDoorLawApart07
namespace Go.Proofs.YtfipoadgfebibaaDoor
open Go Go.RowKit
set_option linter.unusedVariables false

theorem made4 (c : Nat) : (madeCells #[.int .i64 0, .int .i64 0, .int .u64 0, .int .u64 0] (c * 4)).toList = (List.replicate c OpV.nil).flatMap OpV.cells := by
  apply List.ext_getElem?
  intro j
  by_cases hj : j < c * 4
  · have e : j = j / 4 * 4 + j % 4 := by omega
    have h1 : (List.replicate c OpV.nil)[j / 4]? = some OpV.nil := by rw [List.getElem?_replicate, if_pos (by omega)]
    have := flat4 _ _ _ h1 (j % 4) (by omega)
    rw [← e] at this
    rw [this]
    have h4 : j % 4 < 4 := by omega
    simp only [madeCells, Array.getElem?_toList]
    rw [Array.getElem?_eq_getElem (by simp; omega)]
    have : j % 4 = 0 ∨ j % 4 = 1 ∨ j % 4 = 2 ∨ j % 4 = 3 := by omega
    rcases this with h | h | h | h <;> simp [h, OpV.cells, OpV.nil]
  · rw [List.getElem?_eq_none (by simp [madeCells]; omega), List.getElem?_eq_none (by rw [flat4_len, List.length_replicate]; omega)]

theorem make_ops (c : Nat) (hc : c ≤ 20) (w : World) : (Instr.makeSlice 35 (.int .i64 (c : Int)) (.int .i64 (c : Int))).run Tryd.prog w = .ok (.slice (some ⟨w.heap.size, 0, none⟩) c c) (w.alloc (.cells (madeCells #[.int .i64 0, .int .i64 0, .int .u64 0, .int .u64 0] (c * 4)) 38)) := by
  obtain ⟨i, hi, hz, hs, hb⟩ := info_parts info_op
  have hr := run_make (P := Tryd.prog) w 35 38 i (.agg #[.int .i64 0, .int .i64 0, .int .u64 0, .int .u64 0]) Tryd.underlying35 hi hz .i64 .i64 c c (by omega) (by omega) (by rw [hb]; omega) (by omega)
  simpa [hs, Value.cells] using hr

theorem Has.madeOps (w : World) (c : Nat) (hc : c ≤ 20) : Has [] w (w.alloc (.cells (madeCells #[.int .i64 0, .int .i64 0, .int .u64 0, .int .u64 0] (c * 4)) 38)) (.ops (.slice (some ⟨w.heap.size, 0, none⟩) c c) (List.replicate c .nil)) := by
  refine ⟨[w.heap.size], ⟨?_, rfl⟩, by simp, (Kept.refl [] w).alloc _⟩
  rw [List.length_replicate, ← made4]
  exact World.ownsRow_lit w _ c (Nat.zero_le _) (by simp only [maxLen]; omega) (by simp [madeCells])

/-- A store into a row, whatever an element's size. -/
theorem rowN_put {w : World} {e : TypeId} {size g n cap : Nat} {xs : List Value} (h : w.ownsRow 0 e size (.slice (some ⟨g, 0, none⟩) n cap) n xs) (k : Nat) (u : Value) :
    (w.setCell ⟨g, k, none⟩ u).ownsRow 0 e size (.slice (some ⟨g, 0, none⟩) n cap) n (xs.set k u) := by
  obtain ⟨hl, h1 | ⟨g', cap', cur, hv', h0, hg, h2, h3, h4, h5⟩⟩ := h
  · cases h1.1
  · cases hv'
    refine ⟨by simpa using hl, .inr ⟨g, cap, cur.setIfInBounds k u, rfl, Nat.zero_le _, ?_, h2, h3, by simpa using h4, ?_⟩⟩
    · simp [World.setCell, Array.getElem?_modify, hg]
    · simp only [Array.toList_setIfInBounds]
      rw [← h5, List.take_set]

theorem flat4_set (l : List OpV) (k : Nat) (x : OpV) (hk : k < l.length) : ((((l.flatMap OpV.cells).set (k * 4) (.int .i64 x.k)).set (k * 4 + 1) (.int .i64 x.c)).set (k * 4 + 2) (.int .u64 x.x)).set (k * 4 + 3) (.int .u64 x.y) = (l.set k x).flatMap OpV.cells := by
  induction l generalizing k with
  | nil => simp at hk
  | cons a l ih =>
    cases k with
    | zero => simp [OpV.cells]
    | succ k =>
      simp only [List.set_cons_succ, List.flatMap_cons]
      rw [← ih k (by simpa using hk)]
      have e : (k + 1) * 4 = k * 4 + 4 := by omega
      rw [e]
      simp [OpV.cells]

theorem ops_put {o : List Nat} {w0 w : World} {g cap : Nat} {l : List OpV} (h : Has o w0 w (.ops (.slice (some ⟨g, 0, none⟩) l.length cap) l)) (k : Nat) (x : OpV) (hk : k < l.length) :
    Has o w0 ((((w.setCell ⟨g, k * 4, none⟩ (.int .i64 x.k)).setCell ⟨g, k * 4 + 1, none⟩ (.int .i64 x.c)).setCell ⟨g, k * 4 + 2, none⟩ (.int .u64 x.x)).setCell ⟨g, k * 4 + 3, none⟩ (.int .u64 x.y)) (.ops (.slice (some ⟨g, 0, none⟩) (l.set k x).length cap) (l.set k x)) := by
  obtain ⟨fp, ⟨hr, rfl⟩, hn, k0⟩ := h
  have hm : g ∈ rowsOf (.slice (some ⟨g, 0, none⟩) l.length cap) := by simp [rowsOf, Value.ownBlock]
  refine Has.step hn k0 ⟨rowsOf (.slice (some ⟨g, 0, none⟩) l.length cap), ⟨?_, by simp [rowsOf, Value.ownBlock]⟩, fun x hx => .inl hx, ((((Kept.refl _ w).set _ hm).set _ hm).set _ hm).set _ hm⟩
  rw [List.length_set, ← flat4_set l k x hk]
  exact rowN_put (rowN_put (rowN_put (rowN_put hr _ _) _ _) _ _) _ _

theorem mod20 (k : Int) : 0 ≤ (wrap64 (k.tmod 20 + 20)).tmod 20 ∧ (wrap64 (k.tmod 20 + 20)).tmod 20 ≤ 19 := by
  have h1 := Int.tmod_lt_of_pos k (b := 20) (by omega)
  have h2 := Int.lt_tmod_of_pos k (b := 20) (by omega)
  generalize k.tmod 20 = m at *
  rw [wrap64_in (m + 20) (by omega), Int.tmod_eq_emod_of_nonneg (by omega)]
  omega

/-- The last program's row of operations, and a store into it. -/
theorem progs_last {o : List Nat} {w0 w : World} {v : Value} {i : Nat} {us : Nat → Value} {Q : Nat → List OpV} (h : Has o w0 w (.progs v (i + 1) us Q)) {k : Nat} (hk : k < (Q i).length) :
    ∃ b cap g gc, v = .slice (some ⟨b, 0, none⟩) (i + 1) cap ∧ w.cell? ⟨b, i, none⟩ = some (.slice (some ⟨g, 0, none⟩) (Q i).length gc) ∧ (∀ j, j < (Q i).length * 4 → (∃ u, w.cell? ⟨g, j, none⟩ = some u) ∧ w.frozen? ⟨g, j, none⟩ = false) ∧
      ∀ x : OpV, Has o w0 ((((w.setCell ⟨g, k * 4, none⟩ (.int .i64 x.k)).setCell ⟨g, k * 4 + 1, none⟩ (.int .i64 x.c)).setCell ⟨g, k * 4 + 2, none⟩ (.int .u64 x.x)).setCell ⟨g, k * 4 + 3, none⟩ (.int .u64 x.y)) (.progs v (i + 1) us (updF Q i ((Q i).set k x))) := by
  obtain ⟨o2, h2, _, _, _⟩ := h.left
  obtain ⟨o3, h3, _, _, b3⟩ := h.right
  obtain ⟨o4, h4, _, _, b4⟩ := h3.pick (i := i) (by omega)
  obtain ⟨fp2, ⟨hr2, _⟩, _⟩ := h2
  obtain ⟨b, cap, e, _, _, _, _, hc⟩ := row_out hr2 (by omega)
  have hcell := hc i (us i) (by rw [List.getElem?_map, List.getElem?_range (by omega)]; rfl)
  have hr4 : w.ownsRow 0 38 4 (us i) (Q i).length ((Q i).flatMap OpV.cells) := by obtain ⟨fp4, ⟨hr4, _⟩, _⟩ := h4; exact hr4
  rcases rowN_val hr4 with ⟨e4, h0⟩ | ⟨g, gc, e4, _, _, _, hf, hc4⟩
  · omega
  · refine ⟨b, cap, g, gc, e, by rw [hcell, e4], fun j hj => ⟨⟨_, hc4 j _ (List.getElem?_eq_getElem (by rw [flat4_len]; omega))⟩, hf j⟩, fun x => ?_⟩
    rw [e4] at h4
    have h5 := b4 _ _ (ops_put h4 k x hk)
    refine b3 _ (.all (i + 1) fun j => .ops (us j) (updF Q i ((Q i).set k x) j)) (h5.congr fun j hj => ?_)
    unfold updP updF
    by_cases ej : j = i
    · subst ej; simp [e4]
    · simp [ej]

theorem rep_set {α : Type} (a b : α) (c j : Nat) (hj : j < c) : (List.replicate j a ++ List.replicate (c - j) b).set j a = List.replicate (j + 1) a ++ List.replicate (c - (j + 1)) b := by
  rw [List.set_append_right _ _ (by simp)]
  obtain ⟨d, rfl⟩ : ∃ d, c = j + (d + 1) := ⟨c - j - 1, by omega⟩
  have e1 : j + (d + 1) - j = d + 1 := by omega
  have e2 : j + (d + 1) - (j + 1) = d := by omega
  rw [e1, e2, List.length_replicate, Nat.sub_self, List.replicate_succ, List.set_cons_zero, List.replicate_succ', List.append_assoc]
  rfl

theorem progs_congr {o : List Nat} {w0 w : World} {v : Value} {n : Nat} {us : Nat → Value} {Q Q' : Nat → List OpV} (h : Has o w0 w (.progs v n us Q)) (e : ∀ i, i < n → Q i = Q' i) : Has o w0 w (.progs v n us Q') := by
  obtain ⟨o3, h3, _, _, b3⟩ := h.right
  exact b3 _ _ (h3.congr fun i hi => by rw [e i hi])

theorem counts_ok {n : Nat} {C : Nat → Nat} (hn : n ≤ 8) (h : ∀ i, i < n → C i ≤ 19) : runOk 1 n C (fun i k => (List.replicate (C i) addOne).getD k .nil) ∧ ∀ i, i < n → ∀ k, k < C i → (fun i k => (List.replicate (C i) addOne).getD k .nil) i k = addOne := by
  have key : ∀ i k, k < C i → (List.replicate (C i) addOne).getD k .nil = addOne := fun i k hk => by rw [List.getD_eq_getElem?_getD, List.getElem?_replicate, if_pos hk]; rfl
  refine ⟨⟨by omega, by omega, by omega, fun i hi => ⟨by have := h i hi; omega, fun k hk => ?_⟩⟩, fun i hi k hk => key i k hk⟩
  have e := key i k hk
  show opOk 1 ((List.replicate (C i) addOne).getD k .nil)
  rw [e]
  exact ⟨by decide, by decide, by decide, by decide⟩

theorem info_boolz : (Tryd.prog.info? 4).map (fun i => (i.zero, i.size, i.bytes)) = some (some (.bool false), 1, 1) := by kernel_rfl

set_option maxHeartbeats 16000000 in
set_option maxRecDepth 100000 in
theorem counts_law (w : World) (hT : TabAt w) (n : Nat) (y : Nat → Int) (yv : Value) (hy : PicksAt w yv n y) (m : Nat) (z : Nat → Int) (q : Option Addr) (qcap : Nat) (hp : PicksAt w (.slice q m qcap) m z) (hmc : m ≤ qcap) :
    Calls Tryd.prog 5 #[yv, .slice q m qcap] w fun e w' => e = .returned (.bool true) ∧ Kept [] w w' := by
  obtain ⟨yq, ycap, rfl, hyn, hY⟩ := hy
  obtain ⟨q', qcap', he, hm, hQ⟩ := hp
  obtain ⟨rfl, rfl⟩ : q = q' ∧ qcap = qcap' := by simpa using he
  clear he
  have HY := Lib.hid hY
  have HQ := Lib.hid hQ
  have HT := Lib.hid hT
  clear hY hT hQ
  go_enter Tryd.func5, Tryd.ntmps5
  go_wp2_with fail
  refine (shown_calls w HT.out).mono ?_
  rintro e w1 ⟨rfl, hk⟩
  have HK := Lib.hid hk
  clear hk
  go_wp2_with fail
  go_loopg [6, 7, 8] (n + 1) (fun k lv tv iv wr => ∃ (i : Nat) (us : Nat → Value) (C : Nat → Nat), i ≤ n ∧ i ≤ 8 ∧ k = n + 1 - i ∧ tv = .int .i64 (sumTo C i) ∧ iv = .int .i64 i ∧ (∀ j, j < i → C j ≤ 19) ∧ Has [] w1 wr (.progs lv i us (fun j => List.replicate (C j) addOne)))
  case atStart => exact ⟨0, fun _ => default, fun _ => 0, Nat.zero_le _, Nat.zero_le _, rfl, rfl, rfl, fun j hj => by omega, Has.nilProgs _ _ _⟩
  case round =>
    obtain ⟨i, us, C, hi, hi8, hk, rfl, rfl, hC, hX⟩ := hrel
    have HKK := Lib.hid hk
    have HC := Lib.hid hC
    have HX := Lib.hid hX
    have HK2 := Lib.hid (HK.out.tr hX.keeps)
    have hsum : sumTo C i ≤ i * 19 := sumTo_le hC
    clear hk hC hX
    by_cases hlt : i < n
    · have hd : decide ((i : Int) < (n : Int)) = true := by simp; omega
      have hd' : decide (i < n) = true := by simp; omega
      by_cases h8 : i < 8
      · have hd8 : decide ((i : Int) < 8) = true := by simp; omega
        obtain ⟨yb, yoff, rfl, _, hyc⟩ := HY.out (by omega)
        have x0 := HK2.out.cell (hyc i hlt) (by simp)
        clear hyc
        obtain ⟨c, hcc⟩ := Int.eq_ofNat_of_zero_le (mod20 (y i)).1
        have hc19 : c ≤ 19 := by have := (mod20 (y i)).2; omega
        have hmk := make_ops c (by omega)
        obtain ⟨o2, h2, _, _, _⟩ := HX.out.left
        have HROW := Lib.hid (show wr.ownsRow 0 35 1 u6 i ((List.range i).map us) by obtain ⟨fp2, ⟨hr2, _⟩, _⟩ := h2; exact hr2)
        obtain ⟨i0, hi0, hz0, hz1, hz2⟩ := info_parts info_ops
        clear h2
        go_wp2_with (at_builtin; refine wpList_append_new rfl (.tmp 44) (.tmp 47) 22 rfl 35 i0 (.slice none 0 0) 1 24 Tryd.underlying22 hi0 hz0 hz1 hz2 rfl (by decide) _ _ _ rfl ((HROW.out.alloc _).alloc _) ⟨_, 0, none⟩ 1 1 [.slice (some ⟨wr.heap.size, 0, none⟩) c c] rfl rfl (cell_one _ _ _ _ (by simp)) (by simp [Value.oneCell']) (by simp only [maxLen]; omega) (by omega) ?_)
        intro v' w5 happ
        have hX1 := Has.moreProg (u := .slice (some ⟨wr.heap.size, 0, none⟩) c c) _ (HX.out.beside (Has.madeOps wr c (by omega))) happ
        have HX1 := Lib.hid hX1
        clear hX1 happ HROW
        generalize hus : updF us i (.slice (some ⟨wr.heap.size, 0, none⟩) c c) = us' at *
        clear hus
        go_wp2_with fail
        go_loopg [10] c (fun k jv wx => ∃ (j : Nat) (Q' : Nat → List OpV), j ≤ c ∧ k = c - j ∧ jv = .int .i64 j ∧ Q' i = List.replicate j addOne ++ List.replicate (c - j) .nil ∧ (∀ d, d < i → Q' d = List.replicate (C d) addOne) ∧ Has [] w1 wx (.progs v' (i + 1) us' Q'))
        case atStart =>
          refine ⟨0, _, Nat.zero_le _, rfl, rfl, ?_, fun d hd => ?_, HX1.out⟩
          · show updF _ i _ i = _
            unfold updF
            rw [if_pos rfl]; simp
          · show updF _ i _ d = _
            unfold updF
            rw [if_neg (by omega)]
        case round =>
          clear HX1 HX
          obtain ⟨j, Q', hj, hk2, rfl, hQi, hQd, hX⟩ := hrel
          have HKJ := Lib.hid hk2
          have HQI := Lib.hid hQi
          have HQD := Lib.hid hQd
          have HX := Lib.hid hX
          have hQl : (Q' i).length = c := by rw [hQi, List.length_append, List.length_replicate, List.length_replicate]; omega
          clear hk2 hQi hQd hX
          by_cases hjc : j < c
          · have e1 : decide ((j : Int) < (c : Int)) = true := by simp; omega
            have e1' : decide (j < c) = true := by simp; omega
            have hb : 0 ≤ (j : Int) ∧ (j : Int) < (c : Int) := by omega
            obtain ⟨b, cap, g, gc, hve, hcell, hcs, hput⟩ := progs_last HX.out (k := j) (by omega)
            rw [hQl] at hcell hcs
            obtain ⟨⟨u0, f0⟩, z0⟩ := hcs (j * 4) (by omega)
            obtain ⟨⟨u1, f1⟩, z1⟩ := hcs (j * 4 + 1) (by omega)
            obtain ⟨⟨u2, f2⟩, z2⟩ := hcs (j * 4 + 2) (by omega)
            obtain ⟨⟨u3, f3⟩, z3⟩ := hcs (j * 4 + 3) (by omega)
            have HP := Lib.hid (hput addOne)
            clear hcs hput
            subst hve
            go_wp2_with fail
            go_roundg (c - (j + 1))
            case measure => rw [HKJ.out]; omega
            case rel =>
              refine ⟨j + 1, _, by omega, rfl, by go_num, ?_, fun d hd => ?_, HP.out⟩
              · show updF _ i _ i = _
                unfold updF
                rw [if_pos rfl, HQI.out, rep_set _ _ _ _ hjc]
              · show updF _ i _ d = _
                unfold updF
                rw [if_neg (by omega)]
                exact HQD.out d hd
          · have e1 : decide ((j : Int) < (c : Int)) = false := by simp; omega
            have e1' : decide (j < c) = false := by simp; omega
            obtain rfl : j = c := by omega
            go_wp2_with fail
            go_roundg (n + 1 - (i + 1))
            case measure => rw [HKK.out]; omega
            case rel =>
              refine ⟨i + 1, us', updF C i j, by omega, by omega, rfl, ?_, by go_num, fun d hd => ?_, progs_congr HX.out fun d hd => ?_⟩
              · show _ = Value.int .i64 ((sumTo (updF C i j) i + updF C i j i : Nat) : Int)
                rw [sumTo_congr (f := updF C i j) (g := C) fun d hd => by unfold updF; rw [if_neg (by omega)]]
                unfold updF
                rw [if_pos rfl]
                go_num
              · unfold updF
                by_cases ed : d = i
                · rw [if_pos ed]; exact hc19
                · rw [if_neg ed]; exact HC.out d (by omega)
              · unfold updF
                by_cases ed : d = i
                · rw [if_pos ed, ed, HQI.out]; simp
                · rw [if_neg ed]; exact HQD.out d (by omega)
      · have hd8 : decide ((i : Int) < 8) = false := by simp; omega
        obtain ⟨lp, lc, rfl⟩ := progs_slice HX.out
        obtain ⟨i0, hi0, hz0, hz1, hz2⟩ := info_parts info_int
        by_cases hbig : 5000 < m
        rotate_left
        by_cases hm0 : m = 0
        subst hm0
        have d0 : decide (0 > 5000) = false := by simp
        have hmk : ∀ w : World, (Instr.makeSlice 23 (.int .i64 0) (.int .i64 0)).run Tryd.prog w = .ok (.slice (some ⟨w.heap.size, 0, none⟩) 0 0) (w.alloc (.cells (madeCells #[.int .i64 0] 0) 3)) := fun w => make_picks 0 (by omega) w
        have hX5 := HX.out.beside (Has.madeInts wr 0 (Nat.zero_le _))
        have HX5 := Lib.hid hX5
        clear hX5
        go_wp2_with (at_builtin; refine wpList_append_zero rfl (.tmp 68) (.tmp 69) 23 rfl _ _ _ rfl rfl (append_zero _ _ _ _) ?_)
        obtain ⟨zs, hzs⟩ : ∃ zs : List Int, zs = [] := ⟨_, rfl⟩
        have hzl : zs.length ≤ 5000 := by rw [hzs]; exact Nat.zero_le _
        rw [← hzs] at HX5
        generalize wr.alloc (.cells (madeCells #[.int .i64 0] 0) 3) = w5 at *
        generalize (Value.slice (some ⟨wr.heap.size, 0, none⟩) 0 0) = v' at *
        clear hzs
        rotate_left
        have d0 : decide (m > 5000) = false := by simp; omega
        have d0' : decide ((m : Int) > 5000) = false := by simp; omega
        have d0'' : decide (5000 < (m : Int)) = false := by simp; omega
        have d0q : ¬ (5000 < (m : Int)) := by omega
        have hmk : ∀ w : World, (Instr.makeSlice 23 (.int .i64 0) (.int .i64 (m : Int))).run Tryd.prog w = .ok (.slice (some ⟨w.heap.size, 0, none⟩) 0 m) (w.alloc (.cells (madeCells #[.int .i64 0] m) 3)) := fun w => make_picks m (by omega) w
        have HA := Lib.hid (HX.out.beside (Has.madeInts wr m (by simp only [maxLen]; omega)))
        obtain ⟨oq, hq1, _, _, bq⟩ := HA.out.right
        have HROW := Lib.hid (ap_row hq1)
        obtain ⟨qb, qoff, rfl, hqb, hqc⟩ := HQ.out (by omega)
        have HNC := Lib.hid (nats_cells (m := m) (b := qb) (off := qoff) (z := z) (w := wr.alloc (.cells (madeCells #[.int .i64 0] m) 3)) (fun i hi => ((HK2.out.alloc _).cell (hqc i (by omega)) (by simp))))
        clear hqc
        go_wp2_with (at_builtin; refine wpList_append_new rfl (.tmp 68) (.tmp 69) 23 rfl 3 i0 (.int .i64 0) 1 8 Tryd.underlying23 hi0 hz0 hz1 hz2 rfl (by decide) _ _ _ rfl HROW.out ⟨qb, qoff, none⟩ m qcap (((List.range m).map z).map (Value.int .i64)) rfl (by simp) HNC.out (by simp [Value.oneCell']) (by simp only [maxLen, List.length_nil]; omega) (by simp only [List.length_nil]; omega) ?_)
        intro v' w5 happ
        have hlen0 : 0 + m = ((List.range m).map z).length := by simp
        have happ' : Appended (wr.alloc (.cells (madeCells #[.int .i64 0] m) 3)) w5 3 1 (.slice (some ⟨wr.heap.size, 0, none⟩) 0 m) v' ((List.range m).map z).length (((List.range m).map z).map (Value.int .i64)) := by first | exact hlen0 ▸ happ | simpa using happ
        have hX5 := bq _ _ (Has.moreInts0 (l' := (List.range m).map z) hq1 happ')
        clear happ' hlen0
        have hzl : ((List.range m).map z).length ≤ 5000 := by simp; omega
        generalize (List.range m).map z = zs at *
        have HX5 := Lib.hid hX5
        clear happ hX5 HROW HNC bq hq1 HA
        rotate_left
        obtain ⟨M, hM⟩ : ∃ M : Nat, M = 5000 := ⟨_, rfl⟩
        have hmk : ∀ w : World, (Instr.makeSlice 23 (.int .i64 0) (.int .i64 5000)).run Tryd.prog w = .ok (.slice (some ⟨w.heap.size, 0, none⟩) 0 5000) (w.alloc (.cells (madeCells #[.int .i64 0] 5000) 3)) := fun w => make_picks 5000 (by omega) w
        have d0 : decide (m > 5000) = true := by simp; omega
        have d0' : decide ((m : Int) > 5000) = true := by simp; omega
        have d1 : ¬ (qcap : Int) < 5000 := by omega
        have d1' : (5000 : Int) ≤ (qcap : Int) := by omega
        have HA := Lib.hid (HX.out.beside (Has.madeInts wr 5000 (by simp only [maxLen]; omega)))
        obtain ⟨oq, hq1, _, _, bq⟩ := HA.out.right
        have HROW := Lib.hid (ap_row hq1)
        obtain ⟨qb, qoff, rfl, hqb, hqc⟩ := HQ.out (by omega)
        have HNC := Lib.hid (nats_cells (m := M) (b := qb) (off := qoff) (z := z) (w := wr.alloc (.cells (madeCells #[.int .i64 0] 5000) 3)) (fun i hi => ((HK2.out.alloc _).cell (hqc i (by omega)) (by simp))))
        clear hqc
        go_wp2_with (at_builtin; refine wpList_append_new rfl (.tmp 68) (.tmp 69) 23 rfl 3 i0 (.int .i64 0) 1 8 Tryd.underlying23 hi0 hz0 hz1 hz2 rfl (by decide) _ _ _ rfl HROW.out ⟨qb, qoff, none⟩ 5000 qcap (((List.range M).map z).map (Value.int .i64)) rfl (by simp; omega) HNC.out (by simp [Value.oneCell']) (by simp only [maxLen, List.length_nil]; omega) (by simp only [List.length_nil]; omega) ?_)
        intro v' w5 happ
        have hlen0 : 0 + 5000 = ((List.range M).map z).length := by simp; omega
        have happ' : Appended (wr.alloc (.cells (madeCells #[.int .i64 0] 5000) 3)) w5 3 1 (.slice (some ⟨wr.heap.size, 0, none⟩) 0 5000) v' ((List.range M).map z).length (((List.range M).map z).map (Value.int .i64)) := by first | exact hlen0 ▸ happ | simpa using happ
        have hX5 := bq _ _ (Has.moreInts0 (l' := (List.range M).map z) hq1 happ')
        clear happ' hlen0
        have hzl : ((List.range M).map z).length ≤ 5000 := by simp; omega
        generalize (List.range M).map z = zs at *
        have HX5 := Lib.hid hX5
        clear happ hX5 HROW HNC bq hq1 HA
        all_goals (
          clear HX hd
          go_wp2_with fail
          go_loopg [11, 12] i (fun k av iv wx => ∃ d : Nat, d ≤ i ∧ k = i - d ∧ iv = .int .i64 d ∧ Has [] w1 wx ((Part.progs (.slice lp i lc) i us (fun j => List.replicate (C j) addOne)).sep (Part.ints av (zs ++ ord (fun _ => 20) d))))
          case atStart => exact ⟨0, Nat.zero_le _, rfl, rfl, by simpa [ord] using HX5.out⟩
          case round =>
            clear HX5
            obtain ⟨d, hdi, hk, rfl, hX⟩ := hrel
            have HKD := Lib.hid hk
            have HX := Lib.hid hX
            clear hk hX
            have hsum2 : sumTo (fun _ => 20) d ≤ d * 20 := sumTo_le fun _ _ => Nat.le_refl _
            by_cases hlt2 : d < i
            · have e0 : decide ((d : Int) < (i : Int)) = true := by simp; omega
              have e0' : decide (d < i) = true := by simp; omega
              go_wp2_with fail
              go_loopg [11, 13] 20 (fun k av jv wy => ∃ j : Nat, j ≤ 20 ∧ k = 20 - j ∧ jv = .int .i64 j ∧ Has [] w1 wy ((Part.progs (.slice lp i lc) i us (fun j => List.replicate (C j) addOne)).sep (Part.ints av (zs ++ ord (fun _ => 20) d ++ List.replicate j (d : Int)))))
              case atStart => exact ⟨0, Nat.zero_le _, rfl, rfl, by simpa using HX.out⟩
              case round =>
                clear HX
                obtain ⟨j, hj, hk2, rfl, hX⟩ := hrel
                have HKJ := Lib.hid hk2
                have HX := Lib.hid hX
                clear hk2 hX
                by_cases hj20 : j < 20
                · have e1 : decide ((j : Int) < 20) = true := by simp; omega
                  have hA9 : (zs ++ ord (fun _ => 20) d ++ List.replicate j (d : Int)).length ≤ 9000 := by rw [List.length_append, List.length_append, ord_length, List.length_replicate]; omega
                  generalize hAl : zs ++ ord (fun _ => 20) d ++ List.replicate j (d : Int) = Al at *
                  have HAL := Lib.hid hAl
                  clear hAl
                  obtain ⟨o7, h7, _, _, b7⟩ := HX.out.right
                  have HROW := Lib.hid (ap_row h7)
                  go_wp2_with (at_builtin; refine wpList_append_new rfl (.tmp 81) (.tmp 83) 23 rfl 3 i0 (.int .i64 0) 1 8 Tryd.underlying23 hi0 hz0 hz1 hz2 rfl (by decide) _ _ _ rfl (HROW.out.alloc _) ⟨_, 0, none⟩ 1 1 [.int .i64 d] rfl rfl (cell_one _ _ _ _ (by simp)) (by simp [Value.oneCell']) (by simp only [maxLen]; omega) (by omega) ?_)
                  intro v1 wa happ1
                  have HXa := Lib.hid (b7 _ _ (Has.moreInts (l' := [(d : Int)]) _ h7 happ1))
                  clear happ1 HROW HX b7 h7
                  go_wp2_with fail
                  go_roundg (20 - (j + 1))
                  case measure => rw [HKJ.out]; omega
                  case rel =>
                    refine ⟨j + 1, by omega, rfl, by go_num, ?_⟩
                    rw [List.replicate_succ', ← List.append_assoc, HAL.out]
                    exact HXa.out
                · have e1 : decide ((j : Int) < 20) = false := by simp; omega
                  obtain rfl : j = 20 := by omega
                  go_wp2_with fail
                  go_roundg (i - (d + 1))
                  case measure => rw [HKD.out]; omega
                  case rel => exact ⟨d + 1, by omega, rfl, by go_num, by rw [show ord (fun _ => 20) (d + 1) = ord (fun _ => 20) d ++ List.replicate 20 (d : Int) from rfl, ← List.append_assoc]; exact HX.out⟩
            · have e0 : decide ((d : Int) < (i : Int)) = false := by simp; omega
              have e0' : decide (d < i) = false := by simp; omega
              obtain rfl : d = i := by omega
              obtain ⟨hok1, hok2⟩ := counts_ok hi8 HC.out
              have hPA := HX.out.fst.progsAt (fun j hj x hx => by rw [List.eq_of_mem_replicate hx]; exact ⟨by decide, by decide⟩)
              simp only [List.length_replicate] at hPA
              obtain ⟨PQ, hPQ⟩ : ∃ PQ : Nat → Nat → OpV, PQ = fun i k => (List.replicate (C i) addOne).getD k .nil := ⟨_, rfl⟩
              rw [← hPQ] at hok1 hok2 hPA
              obtain ⟨A, hA⟩ : ∃ A, A = zs ++ ord (fun _ => 20) d := ⟨_, rfl⟩
              have hcount := runS_counts (n := d) (L := C) (P := PQ) (z := fun k => A.getD k 0) hok2 A.length (by omega)
              have hlens : ∀ j, j < d → ((runS d C PQ (allTaken 1) (fun k => A.getD k 0) A.length).2.1 j).length = C j := fun j hj => by
                rw [runS_len _ j hj, cntp_list, hA, List.count_append, ord_count, if_pos hj]
                have := HC.out j hj
                omega
              have hmany : (runS d C PQ (allTaken 1) (fun k => A.getD k 0) A.length).2.2 = sumTo C d := by rw [runS_many]; exact sumTo_congr hlens
              have HHX := HX.out
              rw [← hA] at HHX
              obtain ⟨o7, h7, _⟩ := HHX.right
              have HPA := Lib.hid hPA
              have HP1 := Lib.hid h7.picksAt
              have HKw := Lib.hid (HK.out.tr HHX.keeps)
              have HOK := Lib.hid hok1
              obtain ⟨st, hst⟩ : ∃ st, st = runS d C PQ (allTaken 1) (fun k => A.getD k 0) A.length := ⟨_, rfl⟩
              simp only [← hst] at hcount hlens hmany
              have HST := Lib.hid hst
              have HCT := Lib.hid hcount
              have HLN := Lib.hid hlens
              have HMN := Lib.hid hmany
              have hT9 : sumTo C d ≤ 152 := by omega
              clear hcount hst
              clear HHX h7 hPA hok1 hok2 hPQ hA hlens hmany HX HKD hsum2
              go_wp2_with fail
              refine (run_calls _ (HT.out.kept HKw.out (by simp)) 1 _ _ d C us PQ A.length (fun k => A.getD k 0) HPA.out HP1.out HOK.out).mono ?_
              rintro e w6 ⟨av, ah, avs, rfl, hRa⟩
              rw [← HST.out] at hRa ⊢
              rw [HMN.out]
              have HK6 := Lib.hid (HKw.out.tr hRa.keeps)
              obtain ⟨ox, hx, _⟩ := hRa.right
              obtain ⟨hp, hcap, rfl, hhc⟩ := hx.rowAt (fun _ => .int .u64 (sumTo C d)) (fun c hc => by
                obtain rfl : c = 0 := by omega
                rw [List.getElem?_map, List.getElem?_range (by omega), ← HMN.out]
                show some (Value.int .u64 ((st.1.get 0).getD 0)) = _
                rw [HCT.out.cell]; rfl)
              obtain ⟨hb, hoff, rfl, _, hhc⟩ := hhc (by omega)
              have c0 := hhc 0 (by omega)
              simp only [Nat.add_zero] at c0
              obtain ⟨avs', ⟨ap, acap, rfl, hac⟩, hal⟩ := hRa.fst.lists
              have HAC := Lib.hid hac
              have HAL := Lib.hid hal
              have HMN2 := Lib.hid HMN.out
              clear hRa hx hhc hac hal HMN
              generalize hTT : sumTo C d = T at *
              have HTT := Lib.hid hTT
              clear hTT
              have hwT : IntKind.u64.wrap ((T : Nat) : Int) = (T : Int) := by unfold IntKind.wrap; simp [IntKind.bits, IntKind.signed]; omega
              have hmk9 := run_make_row' (P := Tryd.prog) 39 4 (.bool false) 1 Tryd.underlying39 info_boolz rfl .i64 .i64 (T + 1) (by omega) (by omega)
              have hcast : ((T + 1 : Nat) : Int) = (T : Int) + 1 := by simp
              rw [hcast] at hmk9
              have HSB := Lib.hid (Has.madeRow (w := w6) 4 (.bool false) (T + 1) (by simp only [maxLen]; omega) (fun _ => .bool false) fun _ _ => rfl)
              go_wp2_with fail
              generalize w6.heap.size = sg at *
              go_loopg [19] d (fun k iv wy => ∃ (a : Nat) (sF : Nat → Bool), a ≤ d ∧ k = d - a ∧ iv = .int .i64 a ∧ (∀ v : Nat, sF v = true ↔ Seen st.2.1 a 0 v) ∧ Has [] w6 wy (.row 4 1 (.slice (some ⟨sg, 0, none⟩) (T + 1) (T + 1)) (T + 1) ((List.range (T + 1)).map fun v => .bool (sF v))))
              case atStart => exact ⟨0, fun _ => false, Nat.zero_le _, rfl, rfl, (fun v => by simp [Seen]), HSB.out⟩
              case round =>
                clear HSB
                obtain ⟨a, sF, had, hk, rfl, hsF, hX⟩ := hrel
                have HKD := Lib.hid hk
                have HSF := Lib.hid hsF
                have HX := Lib.hid hX
                clear hk hsF hX
                by_cases hlt3 : a < d
                · have f0 : decide ((a : Int) < (d : Int)) = true := by simp; omega
                  have f0' : decide (a < d) = true := by simp; omega
                  obtain ⟨ab, aoff, rfl, _, hac⟩ := HAC.out (by omega)
                  have hacell := hac a hlt3
                  obtain ⟨⟨rp, rcap, hav, hrc⟩, hl9⟩ := HAL.out a hlt3
                  rw [hav] at hacell
                  generalize hl : (st.2.1 a).length = l at *
                  have HL := Lib.hid hl
                  have HACELL := Lib.hid hacell
                  have HRC := Lib.hid hrc
                  have hl99 : l ≤ 9223372036854775807 := Nat.le_trans hl9 (by decide)
                  clear hac hacell hrc hl hav
                  go_wp2_with fail
                  go_loopg [20, 21] l (fun k lav jv wz => ∃ (j : Nat) (sF : Nat → Bool) (la : Int), j ≤ l ∧ k = l - j ∧ jv = .int .i64 j ∧ lav = .int .u64 la ∧ la = (if j = 0 then 0 else (st.2.1 a).getD (j - 1) 0) ∧ (∀ v : Nat, sF v = true ↔ Seen st.2.1 a j v) ∧ Has [] w6 wz (.row 4 1 (.slice (some ⟨sg, 0, none⟩) (T + 1) (T + 1)) (T + 1) ((List.range (T + 1)).map fun v => .bool (sF v))))
                  case atStart => exact ⟨0, sF, 0, Nat.zero_le _, rfl, rfl, rfl, rfl, HSF.out, HX.out⟩
                  case round =>
                    clear HX HSF
                    obtain ⟨j, tF, la, hj, hk2, rfl, rfl, hla, hsF, hX⟩ := hrel
                    have HKJ := Lib.hid hk2
                    have HLA := Lib.hid hla
                    clear hla
                    have HSF := Lib.hid hsF
                    have HX := Lib.hid hX
                    have c1 := HX.out.keeps.cell HACELL.out (by simp)
                    clear hk2 hsF hX
                    by_cases hjl : j < l
                    · have e1 : decide ((j : Int) < (l : Int)) = true := by simp; omega
                      have e1' : decide (j < l) = true := by simp; omega
                      obtain ⟨rb, ro, rfl, _, hrc⟩ := HRC.out (by omega)
                      have c2 := HX.out.keeps.cell (hrc j hjl) (by simp)
                      have hjl' : j < (st.2.1 a).length := by rw [HL.out]; exact hjl
                      have hpos := count_pos HCT.out hlt3 hjl'
                      rw [HMN2.out] at hpos
                      have hfresh := seen_fresh HCT.out hlt3 hjl'
                      have hlast : la < (st.2.1 a).getD j 0 := by
                        rw [HLA.out]
                        by_cases e : j = 0
                        · rw [if_pos e]; omega
                        · rw [if_neg e]
                          have := count_last HCT.out hlt3 (j := j - 1) (by omega)
                          rwa [show j - 1 + 1 = j by omega] at this
                      have HSTEP := Lib.hid (seen_step st.2.1 a j · hjl')
                      generalize hx : (st.2.1 a).getD j 0 = x at *
                      have HXX := Lib.hid hx
                      obtain ⟨xn, rfl⟩ := Int.eq_ofNat_of_zero_le (a := x) (by omega)
                      clear HLA
                      have hsx : tF xn = false := by
                        cases hb : tF xn with
                        | false => rfl
                        | true => exact absurd ((HSF.out xn).1 hb) hfresh
                      obtain ⟨y0, y1⟩ := HX.out.rowCell xn (.bool false) (by rw [List.getElem?_map, List.getElem?_range (by omega)]; simp [hsx])
                      have hS := HX.out.setRow xn (.bool true) (by omega)
                      rw [list_set_range (T + 1) _ _ xn (fun v => Value.bool (if v = xn then true else tF v)) (fun v hv => by by_cases e : v = xn <;> simp [e])] at hS
                      have HS := Lib.hid hS
                      have g0 : decide ((xn : Int) ≤ la) = false := by simp; omega
                      have g1 : decide ((xn : Int) > (T : Int)) = false := by simp; omega
                      have g1' : decide (xn > T) = false := by simp; omega
                      have g2 : 0 ≤ (xn : Int) ∧ (xn : Int) < (T : Int) + 1 := by omega
                      have g3 : 0 ≤ (j : Int) ∧ (j : Int) < (l : Int) := by omega
                      have g4 : 0 ≤ (xn : Int) ∧ (xn : Int) < ((T + 1 : Nat) : Int) := by omega
                      clear hrc hpos hfresh hx hS HX hlast hjl'
                      go_wp2_with fail
                      go_roundg (l - (j + 1))
                      case measure => rw [HKJ.out]; omega
                      case rel =>
                        refine ⟨j + 1, fun v => if v = xn then true else tF v, _, by omega, rfl, by go_num, rfl, ?_, fun v => ?_, HS.out⟩
                        · rw [if_neg (by omega), show j + 1 - 1 = j by omega, HXX.out]
                        · have h1 := HSTEP.out (v : Int)
                          rw [h1, ← HSF.out v]
                          by_cases e : v = xn
                          · subst e; simp
                          · have : ¬ ((v : Int) = (xn : Int)) := by omega
                            simp [e, this]
                    · have e1 : decide ((j : Int) < (l : Int)) = false := by simp; omega
                      have e1' : decide (j < l) = false := by simp; omega
                      obtain rfl : j = l := by omega
                      go_wp2_with fail
                      go_roundg (d - (a + 1))
                      case measure => rw [HKD.out]; omega
                      case rel => exact ⟨a + 1, tF, by omega, rfl, by go_num, fun v => by rw [HSF.out v, seen_row, HL.out], HX.out⟩
                · have f0 : decide ((a : Int) < (d : Int)) = false := by simp; omega
                  have f0' : decide (a < d) = false := by simp; omega
                  have hkE := HK6.out.tr HX.out.keeps
                  go_wp2_with fail
                  go_ret
                  exact ⟨rfl, hkE⟩)
    · have hd : decide ((i : Int) < (n : Int)) = false := by simp; omega
      have hd' : decide (i < n) = false := by simp; omega
      obtain ⟨lp, lc, rfl⟩ := progs_slice HX.out
      obtain ⟨i0, hi0, hz0, hz1, hz2⟩ := info_parts info_int
      by_cases hbig : 5000 < m
      rotate_left
      by_cases hm0 : m = 0
      subst hm0
      have d0 : decide (0 > 5000) = false := by simp
      have hmk : ∀ w : World, (Instr.makeSlice 23 (.int .i64 0) (.int .i64 0)).run Tryd.prog w = .ok (.slice (some ⟨w.heap.size, 0, none⟩) 0 0) (w.alloc (.cells (madeCells #[.int .i64 0] 0) 3)) := fun w => make_picks 0 (by omega) w
      have hX5 := HX.out.beside (Has.madeInts wr 0 (Nat.zero_le _))
      have HX5 := Lib.hid hX5
      clear hX5
      go_wp2_with (at_builtin; refine wpList_append_zero rfl (.tmp 68) (.tmp 69) 23 rfl _ _ _ rfl rfl (append_zero _ _ _ _) ?_)
      obtain ⟨zs, hzs⟩ : ∃ zs : List Int, zs = [] := ⟨_, rfl⟩
      have hzl : zs.length ≤ 5000 := by rw [hzs]; exact Nat.zero_le _
      rw [← hzs] at HX5
      generalize wr.alloc (.cells (madeCells #[.int .i64 0] 0) 3) = w5 at *
      generalize (Value.slice (some ⟨wr.heap.size, 0, none⟩) 0 0) = v' at *
      clear hzs
      rotate_left
      have d0 : decide (m > 5000) = false := by simp; omega
      have d0' : decide ((m : Int) > 5000) = false := by simp; omega
      have d0'' : decide (5000 < (m : Int)) = false := by simp; omega
      have d0q : ¬ (5000 < (m : Int)) := by omega
      have hmk : ∀ w : World, (Instr.makeSlice 23 (.int .i64 0) (.int .i64 (m : Int))).run Tryd.prog w = .ok (.slice (some ⟨w.heap.size, 0, none⟩) 0 m) (w.alloc (.cells (madeCells #[.int .i64 0] m) 3)) := fun w => make_picks m (by omega) w
      have HA := Lib.hid (HX.out.beside (Has.madeInts wr m (by simp only [maxLen]; omega)))
      obtain ⟨oq, hq1, _, _, bq⟩ := HA.out.right
      have HROW := Lib.hid (ap_row hq1)
      obtain ⟨qb, qoff, rfl, hqb, hqc⟩ := HQ.out (by omega)
      have HNC := Lib.hid (nats_cells (m := m) (b := qb) (off := qoff) (z := z) (w := wr.alloc (.cells (madeCells #[.int .i64 0] m) 3)) (fun i hi => ((HK2.out.alloc _).cell (hqc i (by omega)) (by simp))))
      clear hqc
      go_wp2_with (at_builtin; refine wpList_append_new rfl (.tmp 68) (.tmp 69) 23 rfl 3 i0 (.int .i64 0) 1 8 Tryd.underlying23 hi0 hz0 hz1 hz2 rfl (by decide) _ _ _ rfl HROW.out ⟨qb, qoff, none⟩ m qcap (((List.range m).map z).map (Value.int .i64)) rfl (by simp) HNC.out (by simp [Value.oneCell']) (by simp only [maxLen, List.length_nil]; omega) (by simp only [List.length_nil]; omega) ?_)
      intro v' w5 happ
      have hlen0 : 0 + m = ((List.range m).map z).length := by simp
      have happ' : Appended (wr.alloc (.cells (madeCells #[.int .i64 0] m) 3)) w5 3 1 (.slice (some ⟨wr.heap.size, 0, none⟩) 0 m) v' ((List.range m).map z).length (((List.range m).map z).map (Value.int .i64)) := by first | exact hlen0 ▸ happ | simpa using happ
      have hX5 := bq _ _ (Has.moreInts0 (l' := (List.range m).map z) hq1 happ')
      clear happ' hlen0
      have hzl : ((List.range m).map z).length ≤ 5000 := by simp; omega
      generalize (List.range m).map z = zs at *
      have HX5 := Lib.hid hX5
      clear happ hX5 HROW HNC bq hq1 HA
      rotate_left
      obtain ⟨M, hM⟩ : ∃ M : Nat, M = 5000 := ⟨_, rfl⟩
      have hmk : ∀ w : World, (Instr.makeSlice 23 (.int .i64 0) (.int .i64 5000)).run Tryd.prog w = .ok (.slice (some ⟨w.heap.size, 0, none⟩) 0 5000) (w.alloc (.cells (madeCells #[.int .i64 0] 5000) 3)) := fun w => make_picks 5000 (by omega) w
      have d0 : decide (m > 5000) = true := by simp; omega
      have d0' : decide ((m : Int) > 5000) = true := by simp; omega
      have d1 : ¬ (qcap : Int) < 5000 := by omega
      have d1' : (5000 : Int) ≤ (qcap : Int) := by omega
      have HA := Lib.hid (HX.out.beside (Has.madeInts wr 5000 (by simp only [maxLen]; omega)))
      obtain ⟨oq, hq1, _, _, bq⟩ := HA.out.right
      have HROW := Lib.hid (ap_row hq1)
      obtain ⟨qb, qoff, rfl, hqb, hqc⟩ := HQ.out (by omega)
      have HNC := Lib.hid (nats_cells (m := M) (b := qb) (off := qoff) (z := z) (w := wr.alloc (.cells (madeCells #[.int .i64 0] 5000) 3)) (fun i hi => ((HK2.out.alloc _).cell (hqc i (by omega)) (by simp))))
      clear hqc
      go_wp2_with (at_builtin; refine wpList_append_new rfl (.tmp 68) (.tmp 69) 23 rfl 3 i0 (.int .i64 0) 1 8 Tryd.underlying23 hi0 hz0 hz1 hz2 rfl (by decide) _ _ _ rfl HROW.out ⟨qb, qoff, none⟩ 5000 qcap (((List.range M).map z).map (Value.int .i64)) rfl (by simp; omega) HNC.out (by simp [Value.oneCell']) (by simp only [maxLen, List.length_nil]; omega) (by simp only [List.length_nil]; omega) ?_)
      intro v' w5 happ
      have hlen0 : 0 + 5000 = ((List.range M).map z).length := by simp; omega
      have happ' : Appended (wr.alloc (.cells (madeCells #[.int .i64 0] 5000) 3)) w5 3 1 (.slice (some ⟨wr.heap.size, 0, none⟩) 0 5000) v' ((List.range M).map z).length (((List.range M).map z).map (Value.int .i64)) := by first | exact hlen0 ▸ happ | simpa using happ
      have hX5 := bq _ _ (Has.moreInts0 (l' := (List.range M).map z) hq1 happ')
      clear happ' hlen0
      have hzl : ((List.range M).map z).length ≤ 5000 := by simp; omega
      generalize (List.range M).map z = zs at *
      have HX5 := Lib.hid hX5
      clear happ hX5 HROW HNC bq hq1 HA
      all_goals (
        clear HX hd
        go_wp2_with fail
        go_loopg [11, 12] i (fun k av iv wx => ∃ d : Nat, d ≤ i ∧ k = i - d ∧ iv = .int .i64 d ∧ Has [] w1 wx ((Part.progs (.slice lp i lc) i us (fun j => List.replicate (C j) addOne)).sep (Part.ints av (zs ++ ord (fun _ => 20) d))))
        case atStart => exact ⟨0, Nat.zero_le _, rfl, rfl, by simpa [ord] using HX5.out⟩
        case round =>
          clear HX5
          obtain ⟨d, hdi, hk, rfl, hX⟩ := hrel
          have HKD := Lib.hid hk
          have HX := Lib.hid hX
          clear hk hX
          have hsum2 : sumTo (fun _ => 20) d ≤ d * 20 := sumTo_le fun _ _ => Nat.le_refl _
          by_cases hlt2 : d < i
          · have e0 : decide ((d : Int) < (i : Int)) = true := by simp; omega
            have e0' : decide (d < i) = true := by simp; omega
            go_wp2_with fail
            go_loopg [11, 13] 20 (fun k av jv wy => ∃ j : Nat, j ≤ 20 ∧ k = 20 - j ∧ jv = .int .i64 j ∧ Has [] w1 wy ((Part.progs (.slice lp i lc) i us (fun j => List.replicate (C j) addOne)).sep (Part.ints av (zs ++ ord (fun _ => 20) d ++ List.replicate j (d : Int)))))
            case atStart => exact ⟨0, Nat.zero_le _, rfl, rfl, by simpa using HX.out⟩
            case round =>
              clear HX
              obtain ⟨j, hj, hk2, rfl, hX⟩ := hrel
              have HKJ := Lib.hid hk2
              have HX := Lib.hid hX
              clear hk2 hX
              by_cases hj20 : j < 20
              · have e1 : decide ((j : Int) < 20) = true := by simp; omega
                have hA9 : (zs ++ ord (fun _ => 20) d ++ List.replicate j (d : Int)).length ≤ 9000 := by rw [List.length_append, List.length_append, ord_length, List.length_replicate]; omega
                generalize hAl : zs ++ ord (fun _ => 20) d ++ List.replicate j (d : Int) = Al at *
                have HAL := Lib.hid hAl
                clear hAl
                obtain ⟨o7, h7, _, _, b7⟩ := HX.out.right
                have HROW := Lib.hid (ap_row h7)
                go_wp2_with (at_builtin; refine wpList_append_new rfl (.tmp 81) (.tmp 83) 23 rfl 3 i0 (.int .i64 0) 1 8 Tryd.underlying23 hi0 hz0 hz1 hz2 rfl (by decide) _ _ _ rfl (HROW.out.alloc _) ⟨_, 0, none⟩ 1 1 [.int .i64 d] rfl rfl (cell_one _ _ _ _ (by simp)) (by simp [Value.oneCell']) (by simp only [maxLen]; omega) (by omega) ?_)
                intro v1 wa happ1
                have HXa := Lib.hid (b7 _ _ (Has.moreInts (l' := [(d : Int)]) _ h7 happ1))
                clear happ1 HROW HX b7 h7
                go_wp2_with fail
                go_roundg (20 - (j + 1))
                case measure => rw [HKJ.out]; omega
                case rel =>
                  refine ⟨j + 1, by omega, rfl, by go_num, ?_⟩
                  rw [List.replicate_succ', ← List.append_assoc, HAL.out]
                  exact HXa.out
              · have e1 : decide ((j : Int) < 20) = false := by simp; omega
                obtain rfl : j = 20 := by omega
                go_wp2_with fail
                go_roundg (i - (d + 1))
                case measure => rw [HKD.out]; omega
                case rel => exact ⟨d + 1, by omega, rfl, by go_num, by rw [show ord (fun _ => 20) (d + 1) = ord (fun _ => 20) d ++ List.replicate 20 (d : Int) from rfl, ← List.append_assoc]; exact HX.out⟩
          · have e0 : decide ((d : Int) < (i : Int)) = false := by simp; omega
            have e0' : decide (d < i) = false := by simp; omega
            obtain rfl : d = i := by omega
            obtain ⟨hok1, hok2⟩ := counts_ok hi8 HC.out
            have hPA := HX.out.fst.progsAt (fun j hj x hx => by rw [List.eq_of_mem_replicate hx]; exact ⟨by decide, by decide⟩)
            simp only [List.length_replicate] at hPA
            obtain ⟨PQ, hPQ⟩ : ∃ PQ : Nat → Nat → OpV, PQ = fun i k => (List.replicate (C i) addOne).getD k .nil := ⟨_, rfl⟩
            rw [← hPQ] at hok1 hok2 hPA
            obtain ⟨A, hA⟩ : ∃ A, A = zs ++ ord (fun _ => 20) d := ⟨_, rfl⟩
            have hcount := runS_counts (n := d) (L := C) (P := PQ) (z := fun k => A.getD k 0) hok2 A.length (by omega)
            have hlens : ∀ j, j < d → ((runS d C PQ (allTaken 1) (fun k => A.getD k 0) A.length).2.1 j).length = C j := fun j hj => by
              rw [runS_len _ j hj, cntp_list, hA, List.count_append, ord_count, if_pos hj]
              have := HC.out j hj
              omega
            have hmany : (runS d C PQ (allTaken 1) (fun k => A.getD k 0) A.length).2.2 = sumTo C d := by rw [runS_many]; exact sumTo_congr hlens
            have HHX := HX.out
            rw [← hA] at HHX
            obtain ⟨o7, h7, _⟩ := HHX.right
            have HPA := Lib.hid hPA
            have HP1 := Lib.hid h7.picksAt
            have HKw := Lib.hid (HK.out.tr HHX.keeps)
            have HOK := Lib.hid hok1
            obtain ⟨st, hst⟩ : ∃ st, st = runS d C PQ (allTaken 1) (fun k => A.getD k 0) A.length := ⟨_, rfl⟩
            simp only [← hst] at hcount hlens hmany
            have HST := Lib.hid hst
            have HCT := Lib.hid hcount
            have HLN := Lib.hid hlens
            have HMN := Lib.hid hmany
            have hT9 : sumTo C d ≤ 152 := by omega
            clear hcount hst
            clear HHX h7 hPA hok1 hok2 hPQ hA hlens hmany HX HKD hsum2
            go_wp2_with fail
            refine (run_calls _ (HT.out.kept HKw.out (by simp)) 1 _ _ d C us PQ A.length (fun k => A.getD k 0) HPA.out HP1.out HOK.out).mono ?_
            rintro e w6 ⟨av, ah, avs, rfl, hRa⟩
            rw [← HST.out] at hRa ⊢
            rw [HMN.out]
            have HK6 := Lib.hid (HKw.out.tr hRa.keeps)
            obtain ⟨ox, hx, _⟩ := hRa.right
            obtain ⟨hp, hcap, rfl, hhc⟩ := hx.rowAt (fun _ => .int .u64 (sumTo C d)) (fun c hc => by
              obtain rfl : c = 0 := by omega
              rw [List.getElem?_map, List.getElem?_range (by omega), ← HMN.out]
              show some (Value.int .u64 ((st.1.get 0).getD 0)) = _
              rw [HCT.out.cell]; rfl)
            obtain ⟨hb, hoff, rfl, _, hhc⟩ := hhc (by omega)
            have c0 := hhc 0 (by omega)
            simp only [Nat.add_zero] at c0
            obtain ⟨avs', ⟨ap, acap, rfl, hac⟩, hal⟩ := hRa.fst.lists
            have HAC := Lib.hid hac
            have HAL := Lib.hid hal
            have HMN2 := Lib.hid HMN.out
            clear hRa hx hhc hac hal HMN
            generalize hTT : sumTo C d = T at *
            have HTT := Lib.hid hTT
            clear hTT
            have hwT : IntKind.u64.wrap ((T : Nat) : Int) = (T : Int) := by unfold IntKind.wrap; simp [IntKind.bits, IntKind.signed]; omega
            have hmk9 := run_make_row' (P := Tryd.prog) 39 4 (.bool false) 1 Tryd.underlying39 info_boolz rfl .i64 .i64 (T + 1) (by omega) (by omega)
            have hcast : ((T + 1 : Nat) : Int) = (T : Int) + 1 := by simp
            rw [hcast] at hmk9
            have HSB := Lib.hid (Has.madeRow (w := w6) 4 (.bool false) (T + 1) (by simp only [maxLen]; omega) (fun _ => .bool false) fun _ _ => rfl)
            go_wp2_with fail
            generalize w6.heap.size = sg at *
            go_loopg [19] d (fun k iv wy => ∃ (a : Nat) (sF : Nat → Bool), a ≤ d ∧ k = d - a ∧ iv = .int .i64 a ∧ (∀ v : Nat, sF v = true ↔ Seen st.2.1 a 0 v) ∧ Has [] w6 wy (.row 4 1 (.slice (some ⟨sg, 0, none⟩) (T + 1) (T + 1)) (T + 1) ((List.range (T + 1)).map fun v => .bool (sF v))))
            case atStart => exact ⟨0, fun _ => false, Nat.zero_le _, rfl, rfl, (fun v => by simp [Seen]), HSB.out⟩
            case round =>
              clear HSB
              obtain ⟨a, sF, had, hk, rfl, hsF, hX⟩ := hrel
              have HKD := Lib.hid hk
              have HSF := Lib.hid hsF
              have HX := Lib.hid hX
              clear hk hsF hX
              by_cases hlt3 : a < d
              · have f0 : decide ((a : Int) < (d : Int)) = true := by simp; omega
                have f0' : decide (a < d) = true := by simp; omega
                obtain ⟨ab, aoff, rfl, _, hac⟩ := HAC.out (by omega)
                have hacell := hac a hlt3
                obtain ⟨⟨rp, rcap, hav, hrc⟩, hl9⟩ := HAL.out a hlt3
                rw [hav] at hacell
                generalize hl : (st.2.1 a).length = l at *
                have HL := Lib.hid hl
                have HACELL := Lib.hid hacell
                have HRC := Lib.hid hrc
                have hl99 : l ≤ 9223372036854775807 := Nat.le_trans hl9 (by decide)
                clear hac hacell hrc hl hav
                go_wp2_with fail
                go_loopg [20, 21] l (fun k lav jv wz => ∃ (j : Nat) (sF : Nat → Bool) (la : Int), j ≤ l ∧ k = l - j ∧ jv = .int .i64 j ∧ lav = .int .u64 la ∧ la = (if j = 0 then 0 else (st.2.1 a).getD (j - 1) 0) ∧ (∀ v : Nat, sF v = true ↔ Seen st.2.1 a j v) ∧ Has [] w6 wz (.row 4 1 (.slice (some ⟨sg, 0, none⟩) (T + 1) (T + 1)) (T + 1) ((List.range (T + 1)).map fun v => .bool (sF v))))
                case atStart => exact ⟨0, sF, 0, Nat.zero_le _, rfl, rfl, rfl, rfl, HSF.out, HX.out⟩
                case round =>
                  clear HX HSF
                  obtain ⟨j, tF, la, hj, hk2, rfl, rfl, hla, hsF, hX⟩ := hrel
                  have HKJ := Lib.hid hk2
                  have HLA := Lib.hid hla
                  clear hla
                  have HSF := Lib.hid hsF
                  have HX := Lib.hid hX
                  have c1 := HX.out.keeps.cell HACELL.out (by simp)
                  clear hk2 hsF hX
                  by_cases hjl : j < l
                  · have e1 : decide ((j : Int) < (l : Int)) = true := by simp; omega
                    have e1' : decide (j < l) = true := by simp; omega
                    obtain ⟨rb, ro, rfl, _, hrc⟩ := HRC.out (by omega)
                    have c2 := HX.out.keeps.cell (hrc j hjl) (by simp)
                    have hjl' : j < (st.2.1 a).length := by rw [HL.out]; exact hjl
                    have hpos := count_pos HCT.out hlt3 hjl'
                    rw [HMN2.out] at hpos
                    have hfresh := seen_fresh HCT.out hlt3 hjl'
                    have hlast : la < (st.2.1 a).getD j 0 := by
                      rw [HLA.out]
                      by_cases e : j = 0
                      · rw [if_pos e]; omega
                      · rw [if_neg e]
                        have := count_last HCT.out hlt3 (j := j - 1) (by omega)
                        rwa [show j - 1 + 1 = j by omega] at this
                    have HSTEP := Lib.hid (seen_step st.2.1 a j · hjl')
                    generalize hx : (st.2.1 a).getD j 0 = x at *
                    have HXX := Lib.hid hx
                    obtain ⟨xn, rfl⟩ := Int.eq_ofNat_of_zero_le (a := x) (by omega)
                    clear HLA
                    have hsx : tF xn = false := by
                      cases hb : tF xn with
                      | false => rfl
                      | true => exact absurd ((HSF.out xn).1 hb) hfresh
                    obtain ⟨y0, y1⟩ := HX.out.rowCell xn (.bool false) (by rw [List.getElem?_map, List.getElem?_range (by omega)]; simp [hsx])
                    have hS := HX.out.setRow xn (.bool true) (by omega)
                    rw [list_set_range (T + 1) _ _ xn (fun v => Value.bool (if v = xn then true else tF v)) (fun v hv => by by_cases e : v = xn <;> simp [e])] at hS
                    have HS := Lib.hid hS
                    have g0 : decide ((xn : Int) ≤ la) = false := by simp; omega
                    have g1 : decide ((xn : Int) > (T : Int)) = false := by simp; omega
                    have g1' : decide (xn > T) = false := by simp; omega
                    have g2 : 0 ≤ (xn : Int) ∧ (xn : Int) < (T : Int) + 1 := by omega
                    have g3 : 0 ≤ (j : Int) ∧ (j : Int) < (l : Int) := by omega
                    have g4 : 0 ≤ (xn : Int) ∧ (xn : Int) < ((T + 1 : Nat) : Int) := by omega
                    clear hrc hpos hfresh hx hS HX hlast hjl'
                    go_wp2_with fail
                    go_roundg (l - (j + 1))
                    case measure => rw [HKJ.out]; omega
                    case rel =>
                      refine ⟨j + 1, fun v => if v = xn then true else tF v, _, by omega, rfl, by go_num, rfl, ?_, fun v => ?_, HS.out⟩
                      · rw [if_neg (by omega), show j + 1 - 1 = j by omega, HXX.out]
                      · have h1 := HSTEP.out (v : Int)
                        rw [h1, ← HSF.out v]
                        by_cases e : v = xn
                        · subst e; simp
                        · have : ¬ ((v : Int) = (xn : Int)) := by omega
                          simp [e, this]
                  · have e1 : decide ((j : Int) < (l : Int)) = false := by simp; omega
                    have e1' : decide (j < l) = false := by simp; omega
                    obtain rfl : j = l := by omega
                    go_wp2_with fail
                    go_roundg (d - (a + 1))
                    case measure => rw [HKD.out]; omega
                    case rel => exact ⟨a + 1, tF, by omega, rfl, by go_num, fun v => by rw [HSF.out v, seen_row, HL.out], HX.out⟩
              · have f0 : decide ((a : Int) < (d : Int)) = false := by simp; omega
                have f0' : decide (a < d) = false := by simp; omega
                have hkE := HK6.out.tr HX.out.keeps
                go_wp2_with fail
                go_ret
                exact ⟨rfl, hkE⟩)
end Go.Proofs.YtfipoadgfebibaaDoor
