/- The walk of SchedApart: true at all programs and picks, and nothing that was there has changed. -/
import Derived.Test.YtfipoadgfebibaaDoorPlainApart
import Derived.Test.YtfipoadgfebibaaDoorShown
namespace Go.Proofs.YtfipoadgfebibaaDoor
open Go Go.RowKit
set_option linter.unusedVariables false

theorem info_int : (Tryd.prog.info? 3).map (fun i => (i.zero, i.size, i.bytes)) = some (some (.int .i64 0), 1, 8) := by kernel_rfl

theorem make_picks (m : Nat) (hm : m ≤ 5000) (w : World) : (Instr.makeSlice 23 (.int .i64 0) (.int .i64 (m : Int))).run Tryd.prog w = .ok (.slice (some ⟨w.heap.size, 0, none⟩) 0 m) (w.alloc (.cells (madeCells #[.int .i64 0] m) 3)) := by
  obtain ⟨i, hi, hz, hs, hb⟩ := info_parts info_int
  have hr := run_make (P := Tryd.prog) w 23 3 i (.int .i64 0) Tryd.underlying23 hi hz .i64 .i64 0 m (by omega) (by omega) (by rw [hb]; omega) (by omega)
  simpa [hs, Value.cells] using hr

/-- Numbers that a slice owns. -/
noncomputable def Part.ints (v : Value) (l : List Int) : Part := .row 3 1 v l.length (l.map (Value.int .i64))

theorem Has.picksAt {o : List Nat} {w0 w : World} {v : Value} {l : List Int} (h : Has o w0 w (.ints v l)) : PicksAt w v l.length (fun k => l.getD k 0) := by
  obtain ⟨fp, ⟨hr, _⟩, _⟩ := h
  have h9 : maxLen ≤ 9223372036854775807 := by decide
  rcases row_val hr with ⟨e, h0⟩ | ⟨g, cap, e, h1, h2, hg, _, hc⟩
  · exact ⟨none, 0, by rw [h0]; exact e, by omega, fun h => by omega⟩
  · refine ⟨_, cap, e, by omega, fun _ => ⟨g, 0, rfl, hg, fun i hi => ?_⟩⟩
    rw [Nat.zero_add]
    refine hc i _ ?_
    show _ = some (Value.int .i64 (l.getD i 0))
    rw [List.getElem?_map, List.getD_eq_getElem?_getD, List.getElem?_eq_getElem hi]; rfl

theorem Has.madeInts (w : World) (m : Nat) (hm : m ≤ maxLen) : Has [] w (w.alloc (.cells (madeCells #[.int .i64 0] m) 3)) (.ints (.slice (some ⟨w.heap.size, 0, none⟩) 0 m) []) := by
  refine ⟨[w.heap.size], ⟨?_, rfl⟩, by simp, (Kept.refl [] w).alloc _⟩
  exact ⟨rfl, .inr ⟨w.heap.size, m, _, rfl, Nat.zero_le _, heap_alloc_new w _, Nat.zero_le _, hm, by rw [size_madeCells, Nat.mul_one], by simp⟩⟩

theorem Has.nilInts (w : World) : Has [] w w (.ints (.slice none 0 0) []) := ⟨[], ⟨World.ownsRow_nil _ _ _ _, by simp [rowsOf, Value.ownBlock]⟩, by simp, Kept.refl _ _⟩

theorem Has.moreInts {o : List Nat} {w0 w w5 : World} {v v' : Value} {l l' : List Int} (ob : Obj) (h : Has o w0 w (.ints v l)) (happ : Appended (w.alloc ob) w5 3 1 v v' (l.length + l'.length) (l.map (Value.int .i64) ++ l'.map (Value.int .i64))) :
    Has o w0 w5 (.ints v' (l ++ l')) := by
  have := Has.appendRowN ob h happ
  unfold Part.ints
  rw [List.length_append, List.map_append]
  exact this

theorem Has.moreInts0 {o : List Nat} {w0 w w5 : World} {v v' : Value} {l' : List Int} (h : Has o w0 w (.ints v [])) (happ : Appended w w5 3 1 v v' l'.length (l'.map (Value.int .i64))) :
    Has o w0 w5 (.ints v' l') := by
  obtain ⟨fp, ⟨hr, rfl⟩, hn, k⟩ := h
  have k1 : Kept (rowsOf v) w w5 := (Kept.refl _ w).grown happ.grown fun b _ e => by simp [mem_rowsOf, e]
  refine Has.step hn k ⟨rowsOf v', ⟨happ.row, rfl⟩, ?_, k1⟩
  intro x hx
  rw [mem_rowsOf] at hx ⊢
  rcases happ.place with e | e
  · rw [e] at hx; exact .inl hx
  · rw [e] at hx
    simp only [Option.some.injEq] at hx
    right; omega

theorem append_zero (g : Addr) (q : Option Addr) (c : Nat) (w : World) : (Builtin.append_ #[23, 23] 23 #[.slice (some g) 0 0, .slice q 0 c]).run Tryd.prog w = .ok (.slice (some g) 0 0) w := by
  cases q <;> kernel_rfl

theorem wpList_append_zero {P : Program} {w : World} {ops : Array Oper} {rest : List Oper} {o : Oper} {a : Act} {Q : Exit → Act → World → Prop} (hgd : o.guard = none) (s x : Operand) (t : TypeId)
    (ho : o.op = .call { callee := .builtin .append, args := #[s, x], argTypes := #[t, t] }) (v u r : Value) (hs : a.eval s = v) (hx : a.eval x = u)
    (hr : (Builtin.append_ #[t, t] o.type #[v, u]).run P w = .ok r w) (h : wpList P ops Q rest (a.put o.dst r) w) : wpList P ops Q (o :: rest) a w := by
  refine wpList_plain hgd fun K hK => ?_
  unfold Oper.wp execOp
  simp only [ho, resolve, invoke, builtin, Sem.run_bind, Sem.run_pure, Result.andThen_ok, List.map_toArray, List.map_cons, List.map_nil, hs, hx, hr]
  exact hK _ _ h

theorem ap_all {o : List Nat} {w0 w w5 : World} {A B : Part} {av v' : Value} {l : List Int} {x : Int} (ob : Obj) (h : Has o w0 w (A.sep ((Part.ints av l).sep B))) (happ : Appended (w.alloc ob) w5 3 1 av v' (l.length + 1) (l.map (Value.int .i64) ++ [.int .i64 x])) :
    Has o w0 w5 (A.sep ((Part.ints v' (l ++ [x])).sep B)) := by
  obtain ⟨o1, h1, _, _, b1⟩ := h.right
  obtain ⟨o2, h2, _, _, b2⟩ := h1.left
  exact b1 _ _ (b2 _ _ (Has.moreInts (l' := [x]) ob h2 happ))
theorem ap_ord {o : List Nat} {w0 w w5 : World} {A B : Part} {av v' : Value} {l : List Int} {x : Int} (ob : Obj) (h : Has o w0 w (A.sep (B.sep (Part.ints av l)))) (happ : Appended (w.alloc ob) w5 3 1 av v' (l.length + 1) (l.map (Value.int .i64) ++ [.int .i64 x])) :
    Has o w0 w5 (A.sep (B.sep (Part.ints v' (l ++ [x])))) := by
  obtain ⟨o1, h1, _, _, b1⟩ := h.right
  obtain ⟨o2, h2, _, _, b2⟩ := h1.right
  exact b1 _ _ (b2 _ _ (Has.moreInts (l' := [x]) ob h2 happ))
theorem ap_row {o : List Nat} {w0 w : World} {v : Value} {l : List Int} (h : Has o w0 w (Part.ints v l)) : w.ownsRow 0 3 1 v l.length (l.map (Value.int .i64)) := by
  obtain ⟨fp, ⟨hr, _⟩, _⟩ := h; exact hr
theorem ap_ints {o : List Nat} {w0 w : World} {v : Value} {l : List Int} (h : Has o w0 w (Part.ints v l)) : ∃ p c, v = .slice p l.length c := by
  rcases row_val (ap_row h) with ⟨e, h0⟩ | ⟨g, c, e, _⟩
  · exact ⟨none, 0, by rw [h0]; exact e⟩
  · exact ⟨_, c, e⟩

/-- A program's slice as it lies in the row of programs. -/
theorem progs_cell {o : List Nat} {w0 w : World} {B : Part} {v : Value} {n : Nat} {us : Nat → Value} {Q : Nat → List OpV} (h : Has o w0 w ((Part.progs v n us Q).sep B)) {i : Nat} (hi : i < n) :
    ∃ g cap p c, v = .slice (some ⟨g, 0, none⟩) n cap ∧ w.cell? ⟨g, i, none⟩ = some (.slice p (Q i).length c) := by
  obtain ⟨o1, h1, _⟩ := h.left
  obtain ⟨o2, h2, _⟩ := h1.left
  obtain ⟨o3, h3, _⟩ := h1.right
  obtain ⟨o4, ⟨fp4, ⟨hr4, _⟩, _⟩, _⟩ := h3.pick hi
  obtain ⟨fp2, ⟨hr2, _⟩, _⟩ := h2
  obtain ⟨g, cap, e, _, _, _, _, hc⟩ := row_out hr2 (by omega)
  have hcell := hc i (us i) (by rw [List.getElem?_map, List.getElem?_range hi]; rfl)
  rcases rowN_val hr4 with ⟨e4, h0⟩ | ⟨g4, c4, e4, _⟩
  · exact ⟨g, cap, none, 0, e, by rw [hcell, e4, h0]⟩
  · exact ⟨g, cap, _, c4, e, by rw [hcell, e4]⟩

theorem progs_slice {o : List Nat} {w0 w : World} {v : Value} {n : Nat} {us : Nat → Value} {Q : Nat → List OpV} (h : Has o w0 w (Part.progs v n us Q)) : ∃ p c, v = .slice p n c := by
  obtain ⟨o2, ⟨fp2, ⟨hr2, _⟩, _⟩, _⟩ := h.left
  rcases row_val hr2 with ⟨e, h0⟩ | ⟨g, c, e, _⟩
  · exact ⟨none, 0, by rw [h0]; exact e⟩
  · exact ⟨_, c, e⟩

theorem ListsAt.congr {w : World} {v : Value} {n : Nat} {L L' : Nat → Nat} {x x' : Nat → Nat → Int} (h : ListsAt w v n L x) (e : ∀ i, i < n → L i = L' i ∧ ∀ k, x i k = x' i k) : ListsAt w v n L' x' := by
  obtain ⟨vs, h1, h2⟩ := h
  refine ⟨vs, h1, fun i hi => ?_⟩
  obtain ⟨a, b⟩ := h2 i hi
  obtain ⟨e1, e2⟩ := e i hi
  rw [← e1]
  refine ⟨?_, b⟩
  have : (fun k => Value.int .u64 (x' i k)) = fun k => Value.int .u64 (x i k) := funext fun k => by rw [e2 k]
  rw [this]
  exact a

theorem apart_ok {n : Nat} {Q : Nat → List OpV} (hn : n ≤ 8) (h : ∀ i, i < n → (Q i).length ≤ 200 ∧ Apart i (Q i)) : runOk 32 n (fun i => (Q i).length) (fun i k => (Q i).getD k .nil) ∧
    (∀ i, i < n → ∀ k, k < (Q i).length → (i : Int) * 4 ≤ ((Q i).getD k .nil).c ∧ ((Q i).getD k .nil).c < i * 4 + 4) ∧ ∀ i, i < n → ∀ x ∈ Q i, -9223372036854775808 ≤ x.c ∧ x.c < 9223372036854775808 := by
  have key : ∀ i, i < n → ∀ k, k < (Q i).length → 1 ≤ ((Q i).getD k .nil).k ∧ ((Q i).getD k .nil).k ≤ 4 ∧ (i : Int) * 4 ≤ ((Q i).getD k .nil).c ∧ ((Q i).getD k .nil).c < i * 4 + 4 := by
    intro i hi k hk
    refine (h i hi).2 _ ?_
    rw [List.getD_eq_getElem?_getD, List.getElem?_eq_getElem hk]
    exact List.getElem_mem hk
  refine ⟨⟨by omega, by omega, by omega, fun i hi => ⟨show (Q i).length ≤ 65536 by have := (h i hi).1; omega, fun k hk => ?_⟩⟩, fun i hi k hk => (key i hi k hk).2.2, fun i hi x hx => ?_⟩
  · obtain ⟨a, b, c, d⟩ := key i hi k hk
    exact ⟨a, b, show 0 ≤ ((Q i).getD k .nil).c by omega, show ((Q i).getD k .nil).c < 32 by omega⟩
  · obtain ⟨a, b, c, d⟩ := (h i hi).2 x hx
    omega

theorem nats_cells {w : World} {b off m : Nat} {z : Nat → Int} (h : ∀ i, i < m → w.cell? ⟨b, off + i, none⟩ = some (.int .i64 (z i))) : ∀ j u, (((List.range m).map z).map (Value.int .i64))[j]? = some u → w.cell? ((⟨b, off, none⟩ : Addr).add j) = some u := by
  intro j u hu
  rw [List.getElem?_map, List.getElem?_map] at hu
  have hj : j < m := by
    by_cases hj : j < m
    · exact hj
    · rw [List.getElem?_eq_none (by simp; omega)] at hu; cases hu
  rw [List.getElem?_range hj] at hu
  simp only [Option.map_some, Option.some.injEq] at hu
  have e : (⟨b, off, none⟩ : Addr).add j = ⟨b, off + j, none⟩ := by
    simp only [Addr.add]
    split
    · rename_i h; subst h; rfl
    · rfl
  rw [e, h j hj, hu]

set_option maxHeartbeats 16000000 in
set_option maxRecDepth 100000 in
theorem apart_law (w : World) (hT : TabAt w) (v : Value) (n : Nat) (L : Nat → Nat) (vs : Nat → Value) (P : Nat → Nat → OpV) (m : Nat) (z : Nat → Int) (q : Option Addr) (qcap : Nat) (h : ProgsAt w v n L vs P) (hp : PicksAt w (.slice q m qcap) m z) (hmc : m ≤ qcap) :
    Calls Tryd.prog 4 #[v, .slice q m qcap] w fun e w' => e = .returned (.bool true) ∧ Kept [] w w' := by
  have HH := Lib.hid h
  obtain ⟨q', qcap', he, hm, hQ⟩ := hp
  obtain ⟨rfl, rfl⟩ : q = q' ∧ qcap = qcap' := by simpa using he
  clear he
  have HQ := Lib.hid hQ
  have HT := Lib.hid hT
  clear h hT hQ
  go_enter Tryd.func4, Tryd.ntmps4
  go_wp2_with fail
  refine (shown_calls w HT.out).mono ?_
  rintro e w1 ⟨rfl, hk⟩
  have HK := Lib.hid hk
  clear hk
  go_wp2_with fail
  refine (moved_walk w1 v n L vs P (HH.out.kept HK.out (by simp))).mono ?_
  rintro e w2 ⟨lv, pn, us, Q, rfl, hn8, hQ8, hX⟩
  have HX := Lib.hid hX
  have HQ8 := Lib.hid hQ8
  have HK2 := Lib.hid (HK.out.tr hX.keeps)
  obtain ⟨lp, lc, rfl⟩ := progs_slice hX
  clear hX hQ8
  obtain ⟨i0, hi0, hz0, hz1, hz2⟩ := info_parts info_int
  by_cases hbig : 5000 < m
  rotate_left
  by_cases hm0 : m = 0
  subst hm0
  have d0 : decide (0 > 5000) = false := by simp
  have hmk : ∀ w : World, (Instr.makeSlice 23 (.int .i64 0) (.int .i64 0)).run Tryd.prog w = .ok (.slice (some ⟨w.heap.size, 0, none⟩) 0 0) (w.alloc (.cells (madeCells #[.int .i64 0] 0) 3)) := fun w => make_picks 0 (by omega) w
  have hX5 := HX.out.beside (Has.madeInts w2 0 (Nat.zero_le _))
  have HX5 := Lib.hid hX5
  clear hX5
  go_wp2_with (at_builtin; refine wpList_append_zero rfl (.tmp 29) (.tmp 30) 23 rfl _ _ _ rfl rfl (append_zero _ _ _ _) ?_)
  obtain ⟨zs, hzs⟩ : ∃ zs : List Int, zs = [] := ⟨_, rfl⟩
  have hzl : zs.length ≤ 5000 := by rw [hzs]; exact Nat.zero_le _
  rw [← hzs] at HX5
  generalize w2.alloc (.cells (madeCells #[.int .i64 0] 0) 3) = w5 at *
  generalize (Value.slice (some ⟨w2.heap.size, 0, none⟩) 0 0) = v' at *
  clear hzs
  rotate_left
  have d0 : decide (m > 5000) = false := by simp; omega
  have d0' : decide ((m : Int) > 5000) = false := by simp; omega
  have d0'' : decide (5000 < (m : Int)) = false := by simp; omega
  have d0q : ¬ (5000 < (m : Int)) := by omega
  have hmk : ∀ w : World, (Instr.makeSlice 23 (.int .i64 0) (.int .i64 (m : Int))).run Tryd.prog w = .ok (.slice (some ⟨w.heap.size, 0, none⟩) 0 m) (w.alloc (.cells (madeCells #[.int .i64 0] m) 3)) := fun w => make_picks m (by omega) w
  have HA := Lib.hid (HX.out.beside (Has.madeInts w2 m (by simp only [maxLen]; omega)))
  obtain ⟨oq, hq1, _, _, bq⟩ := HA.out.right
  have HROW := Lib.hid (ap_row hq1)
  obtain ⟨qb, qoff, rfl, hqb, hqc⟩ := HQ.out (by omega)
  have HNC := Lib.hid (nats_cells (m := m) (b := qb) (off := qoff) (z := z) (w := w2.alloc (.cells (madeCells #[.int .i64 0] m) 3)) (fun i hi => ((HK2.out.alloc _).cell (hqc i (by omega)) (by simp))))
  clear hqc
  go_wp2_with (at_builtin; refine wpList_append_new rfl (.tmp 29) (.tmp 30) 23 rfl 3 i0 (.int .i64 0) 1 8 Tryd.underlying23 hi0 hz0 hz1 hz2 rfl (by decide) _ _ _ rfl HROW.out ⟨qb, qoff, none⟩ m qcap (((List.range m).map z).map (Value.int .i64)) rfl (by simp) HNC.out (by simp [Value.oneCell']) (by simp only [maxLen, List.length_nil]; omega) (by simp only [List.length_nil]; omega) ?_)
  intro v' w5 happ
  have hlen0 : 0 + m = ((List.range m).map z).length := by simp
  have happ' : Appended (w2.alloc (.cells (madeCells #[.int .i64 0] m) 3)) w5 3 1 (.slice (some ⟨w2.heap.size, 0, none⟩) 0 m) v' ((List.range m).map z).length (((List.range m).map z).map (Value.int .i64)) := by first | exact hlen0 ▸ happ | simpa using happ
  have hX5 := bq _ _ (Has.moreInts0 (l' := (List.range m).map z) hq1 happ')
  clear happ' hlen0
  have hzl : ((List.range m).map z).length ≤ 5000 := by simp; omega
  generalize (List.range m).map z = zs at *
  have HX5 := Lib.hid hX5
  clear happ hX5 HROW HNC bq hq1 HA
  rotate_left
  obtain ⟨M, hM⟩ : ∃ M : Nat, M = 5000 := ⟨_, rfl⟩
  have hmk : ∀ w : World, (Instr.makeSlice 23 (.int .i64 0) (.int .i64 5000)).run Tryd.prog w = .ok (.slice (some ⟨w.heap.size, 0, none⟩) 0 5000) (w.alloc (.cells (madeCells #[.int .i64 0] 5000) 3)) := fun w => make_picks 5000 (by omega) w
  have d0 : decide (m > 5000) = true := by simp; omega
  have d0' : decide ((m : Int) > 5000) = true := by simp; omega
  have d1 : ¬ (qcap : Int) < 5000 := by omega
  have d1' : (5000 : Int) ≤ (qcap : Int) := by omega
  have HA := Lib.hid (HX.out.beside (Has.madeInts w2 5000 (by simp only [maxLen]; omega)))
  obtain ⟨oq, hq1, _, _, bq⟩ := HA.out.right
  have HROW := Lib.hid (ap_row hq1)
  obtain ⟨qb, qoff, rfl, hqb, hqc⟩ := HQ.out (by omega)
  have HNC := Lib.hid (nats_cells (m := M) (b := qb) (off := qoff) (z := z) (w := w2.alloc (.cells (madeCells #[.int .i64 0] 5000) 3)) (fun i hi => ((HK2.out.alloc _).cell (hqc i (by omega)) (by simp))))
  clear hqc
  go_wp2_with (at_builtin; refine wpList_append_new rfl (.tmp 29) (.tmp 30) 23 rfl 3 i0 (.int .i64 0) 1 8 Tryd.underlying23 hi0 hz0 hz1 hz2 rfl (by decide) _ _ _ rfl HROW.out ⟨qb, qoff, none⟩ 5000 qcap (((List.range M).map z).map (Value.int .i64)) rfl (by simp; omega) HNC.out (by simp [Value.oneCell']) (by simp only [maxLen, List.length_nil]; omega) (by simp only [List.length_nil]; omega) ?_)
  intro v' w5 happ
  have hlen0 : 0 + 5000 = ((List.range M).map z).length := by simp; omega
  have happ' : Appended (w2.alloc (.cells (madeCells #[.int .i64 0] 5000) 3)) w5 3 1 (.slice (some ⟨w2.heap.size, 0, none⟩) 0 5000) v' ((List.range M).map z).length (((List.range M).map z).map (Value.int .i64)) := by first | exact hlen0 ▸ happ | simpa using happ
  have hX5 := bq _ _ (Has.moreInts0 (l' := (List.range M).map z) hq1 happ')
  clear happ' hlen0
  have hzl : ((List.range M).map z).length ≤ 5000 := by simp; omega
  generalize (List.range M).map z = zs at *
  have HX5 := Lib.hid hX5
  clear happ hX5 HROW HNC bq hq1 HA
  all_goals (
    have HX6 := Lib.hid ((HX5.out.beside (Has.nilInts _)).assoc)
    clear HX5 HX
    generalize hLQ : (fun i => (Q i).length) = LQ at *
    have HLQ := Lib.hid (congrFun hLQ)
    have HLF := Lib.hid hLQ
    have hLB : ∀ i, i < pn → LQ i ≤ 200 := fun i hi => by rw [← congrFun hLQ i]; exact (HQ8.out i hi).1
    have HLB := Lib.hid hLB
    clear hLQ hLB
    go_wp2_with fail
    go_loopg [7, 8, 9] pn (fun k av ov iv wr => ∃ i : Nat, i ≤ pn ∧ k = pn - i ∧ iv = .int .i64 i ∧ Has [] w1 wr ((Part.progs (.slice lp pn lc) pn us Q).sep ((Part.ints av (zs ++ ord LQ i)).sep (Part.ints ov (ord LQ i)))))
    case atStart => exact ⟨0, Nat.zero_le _, rfl, rfl, by simpa [ord] using HX6.out⟩
    case round =>
      clear HX6
      obtain ⟨i, hi, hk, rfl, hX⟩ := hrel
      have HKK := Lib.hid hk
      have HX := Lib.hid hX
      clear hk hX
      have hsum : sumTo LQ i ≤ i * 200 := sumTo_le fun d hd => HLB.out d (by omega)
      have hi8 : i ≤ 8 := by omega
      by_cases hlt : i < pn
      · have hd : decide ((i : Int) < (pn : Int)) = true := by simp; omega
        have hd' : decide (i < pn) = true := by simp; omega
        have hli := HLB.out i hlt
        go_wp2_with fail
        go_loopg [7, 8, 10] (LQ i) (fun k av ov jv wx => ∃ j : Nat, j ≤ LQ i ∧ k = LQ i - j ∧ jv = .int .i64 j ∧ Has [] w1 wx ((Part.progs (.slice lp pn lc) pn us Q).sep ((Part.ints av (zs ++ ord LQ i ++ List.replicate j (i : Int))).sep (Part.ints ov (ord LQ i ++ List.replicate j (i : Int))))))
        case atStart => exact ⟨0, Nat.zero_le _, rfl, rfl, by simpa using HX.out⟩
        case round =>
          clear HX
          obtain ⟨j, hj, hk2, rfl, hX⟩ := hrel
          have HKJ := Lib.hid hk2
          obtain ⟨g, gc, gp, gq, hge, hcell⟩ := progs_cell hX hlt
          obtain ⟨rfl, rfl⟩ : lp = some ⟨g, 0, none⟩ ∧ lc = gc := by simpa using hge
          rw [HLQ.out i] at hcell
          have HX := Lib.hid hX
          clear hk2 hX hge
          by_cases hjl : j < LQ i
          · have e1 : decide ((j : Int) < ((LQ i : Nat) : Int)) = true := by simp; omega
            have e1' : decide (j < LQ i) = true := by simp; omega
            have hA9 : (zs ++ ord LQ i ++ List.replicate j (i : Int)).length ≤ 9000 := by rw [List.length_append, List.length_append, ord_length, List.length_replicate]; omega
            have hO9 : (ord LQ i ++ List.replicate j (i : Int)).length ≤ 9000 := by rw [List.length_append, ord_length, List.length_replicate]; omega
            generalize hAl : zs ++ ord LQ i ++ List.replicate j (i : Int) = Al at *
            generalize hOl : ord LQ i ++ List.replicate j (i : Int) = Ol at *
            have HAL := Lib.hid hAl
            have HOL := Lib.hid hOl
            clear hAl hOl
            obtain ⟨o7, h7, _⟩ := HX.out.right
            obtain ⟨o8, h8, _⟩ := h7.left
            have HROW := Lib.hid (ap_row h8)
            clear h7 h8
            go_wp2_with (at_builtin; refine wpList_append_new rfl (.tmp 47) (.tmp 49) 23 rfl 3 i0 (.int .i64 0) 1 8 Tryd.underlying23 hi0 hz0 hz1 hz2 rfl (by decide) _ _ _ rfl (HROW.out.alloc _) ⟨_, 0, none⟩ 1 1 [.int .i64 i] rfl rfl (cell_one _ _ _ _ (by simp)) (by simp [Value.oneCell']) (by simp only [maxLen]; omega) (by omega) ?_)
            intro v1 wa happ1
            have HXa := Lib.hid (ap_all _ HX.out happ1)
            clear happ1 HROW HX
            obtain ⟨o7, h7, _⟩ := HXa.out.right
            obtain ⟨o8, h8, _⟩ := h7.right
            have HROW := Lib.hid (ap_row h8)
            clear h7 h8
            go_wp2_with (at_builtin; refine wpList_append_new rfl (.tmp 51) (.tmp 53) 23 rfl 3 i0 (.int .i64 0) 1 8 Tryd.underlying23 hi0 hz0 hz1 hz2 rfl (by decide) _ _ _ rfl (HROW.out.alloc _) ⟨_, 0, none⟩ 1 1 [.int .i64 i] rfl rfl (cell_one _ _ _ _ (by simp)) (by simp [Value.oneCell']) (by simp only [maxLen]; omega) (by omega) ?_)
            intro v2 wb happ2
            have HXb := Lib.hid (ap_ord _ HXa.out happ2)
            clear happ2 HROW HXa
            go_wp2_with fail
            go_roundg (LQ i - (j + 1))
            case measure => rw [HKJ.out]; omega
            case rel =>
              refine ⟨j + 1, by omega, rfl, by go_num, ?_⟩
              rw [List.replicate_succ', ← List.append_assoc, ← List.append_assoc, HAL.out, HOL.out]
              exact HXb.out
          · have e1 : decide ((j : Int) < ((LQ i : Nat) : Int)) = false := by simp; omega
            have e1' : decide (j < LQ i) = false := by simp; omega
            obtain rfl : j = LQ i := by omega
            go_wp2_with fail
            go_roundg (pn - (i + 1))
            case measure => rw [HKK.out]; omega
            case rel => exact ⟨i + 1, by omega, rfl, by go_num, by rw [show ord LQ (i + 1) = ord LQ i ++ List.replicate (LQ i) (i : Int) from rfl, ← List.append_assoc]; exact HX.out⟩
      · have hd : decide ((i : Int) < (pn : Int)) = false := by simp; omega
        have hd' : decide (i < pn) = false := by simp; omega
        obtain rfl : i = pn := by omega
        obtain ⟨hok1, hok2, hok3⟩ := apart_ok hn8 HQ8.out
        have hPA := HX.out.fst.progsAt hok3
        obtain ⟨PQ, hPQ⟩ : ∃ PQ : Nat → Nat → OpV, PQ = fun i k => (Q i).getD k .nil := ⟨_, rfl⟩
        rw [HLF.out, ← hPQ] at hok1 hPA
        have hok2' : ∀ j, j < i → ∀ k, k < LQ j → (j : Int) * 4 ≤ (PQ j k).c ∧ (PQ j k).c < j * 4 + 4 := fun j hj k hk => by rw [hPQ]; exact hok2 j hj k (by rw [HLQ.out j]; exact hk)
        obtain ⟨A, hA⟩ : ∃ A, A = zs ++ ord LQ i := ⟨_, rfl⟩
        obtain ⟨O, hO⟩ : ∃ O, O = ord LQ i := ⟨_, rfl⟩
        have hsame := apart_same (n := i) (L := LQ) (P := PQ) (S0 := allTaken 32) (z := fun k => A.getD k 0) hok2' (fun k => O.getD k 0) A.length O.length
          (fun j hj => by rw [cntp_list, hA, List.count_append, ord_count, if_pos hj]; omega) (fun j hj => by rw [cntp_list, hO, ord_count, if_pos hj]; omega)
        have hOl : O.length = sumTo LQ i := by rw [hO, ord_length]
        have HHX := HX.out
        rw [← hA, ← hO] at HHX
        obtain ⟨o7, h7, _⟩ := HHX.right
        obtain ⟨o8, h8, _⟩ := h7.left
        obtain ⟨o9, h9, _⟩ := h7.right
        have HPA := Lib.hid hPA
        have HP1 := Lib.hid h8.picksAt
        have HP2 := Lib.hid h9.picksAt
        obtain ⟨op, oc, rfl⟩ := ap_ints h9
        have HKw := Lib.hid (HK.out.tr HHX.keeps)
        have HOK := Lib.hid hok1
        obtain ⟨s1, s2, s3, s4⟩ := hsame
        rw [← hOl] at s3 s4
        have S1 := Lib.hid s1
        have S2 := Lib.hid s2
        have S3 := Lib.hid s3
        have S4 := Lib.hid s4
        have hi9 : i ≤ maxLen := by simp only [maxLen]; omega
        clear HHX h7 h8 h9 hPA hok1 hok2 hok3 hok2' hPQ hA hO hOl s1 s2 s3 s4 HX hsum HKK
        go_wp2_with fail
        refine (run_calls wr (HT.out.kept HKw.out (by simp)) 32 _ _ i LQ us PQ A.length (fun k => A.getD k 0) HPA.out HP1.out HOK.out).mono ?_
        rintro e w6 ⟨av, ah, avs, rfl, hRa⟩
        have HRa := Lib.hid hRa
        have HK6 := Lib.hid (HKw.out.tr hRa.keeps)
        rw [S3.out]
        clear hRa
        go_wp2_with fail
        refine (run_calls w6 (HT.out.kept HK6.out (by simp)) 32 _ _ i LQ us PQ O.length (fun k => O.getD k 0) (HPA.out.kept HRa.out.keeps (by simp)) (HP2.out.kept HRa.out.keeps (by simp)) HOK.out).mono ?_
        rintro e w7 ⟨bv, bh, bvs, rfl, hRb⟩
        have HK7 := Lib.hid (HK6.out.tr hRb.keeps)
        have HLa := Lib.hid (HRa.out.fst.lists.kept hRb.keeps (by simp))
        have HLb := Lib.hid (ListsAt.congr (L' := fun j => ((runS i LQ PQ (allTaken 32) (fun k => A.getD k 0) A.length).2.1 j).length) (x' := fun j k => ((runS i LQ PQ (allTaken 32) (fun k => A.getD k 0) A.length).2.1 j).getD k 0) hRb.fst.lists (fun j hj => by rw [S1.out j hj]; exact ⟨rfl, fun k => rfl⟩))
        obtain ⟨ox, hx, _⟩ := HRa.out.right
        have HWa := Lib.hid ((hx.rowAt (fun c => .int .u64 (((runS i LQ PQ (allTaken 32) (fun k => A.getD k 0) A.length).1.get c).getD 0)) (fun c hc => by rw [List.getElem?_map, List.getElem?_range hc]; rfl)).kept hRb.keeps (by simp))
        obtain ⟨oy, hy, _⟩ := hRb.right
        have HWb := Lib.hid (hy.rowAt (fun c => .int .u64 (((runS i LQ PQ (allTaken 32) (fun k => A.getD k 0) A.length).1.get c).getD 0)) (fun c hc => by rw [List.getElem?_map, List.getElem?_range hc, S2.out c]; rfl))
        rw [S4.out]
        clear hRb hx hy HRa
        go_wp2_with fail
        refine (lists_same w7 _ _ i _ _ HLa.out HLb.out hi9).mono ?_
        rintro e w8 ⟨rfl, q8, rfl⟩
        go_wp2_with fail
        refine (words_same _ _ _ 32 _ (HWa.out.drewN _) (HWb.out.drewN _) (by simp only [maxLen]; omega)).mono ?_
        rintro e w9 ⟨rfl, q9, rfl⟩
        go_wp2_with fail
        go_ret
        exact ⟨rfl, HK7.out.drewN _⟩)
end Go.Proofs.YtfipoadgfebibaaDoor
