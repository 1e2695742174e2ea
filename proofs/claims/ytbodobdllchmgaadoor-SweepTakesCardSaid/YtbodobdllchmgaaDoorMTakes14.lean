/- The walk of SweepTakes: true at all chains, all nodes, all marks, and nothing that was there has changed. -/
import Derived.Test.YtbodobdllchmgaaDoorMTakes13
namespace Go.Proofs.YtbodobdllchmgaaDoor
open Go Go.RowKit
set_option linter.unusedVariables false

variable {o : List Nat} {w0 w : World} {b rb ob : Nat} {A : ASt} {rs s mark : Int} {B N C E K R X : Part} {ch : Nat → List Nat}

theorem make_cap (m : Nat) (hm : m ≤ 5000) (w : World) : (Instr.makeSlice 22 (.int .i64 0) (.int .i64 (m : Int))).run Tryd.prog w = .ok (.slice (some ⟨w.heap.size, 0, none⟩) 0 m) (w.alloc (.cells (madeCells #[.int .i64 0] m) 3)) := by
  obtain ⟨i, hi, hz, hs, hb⟩ := info_parts info_int
  have hr := run_make (P := Tryd.prog) w 22 3 i (.int .i64 0) Tryd.underlying22 hi hz .i64 .i64 0 m (by omega) (by omega) (by rw [hb]; omega) (by omega)
  simpa [hs, Value.cells] using hr
theorem make_nodes (m : Nat) (hm : m ≤ 4000) (w : World) : (Instr.makeSlice 22 (.int .i64 0) (.int .i64 ((m : Int) + 20))).run Tryd.prog w = .ok (.slice (some ⟨w.heap.size, 0, none⟩) 0 (m + 20)) (w.alloc (.cells (madeCells #[.int .i64 0] (m + 20)) 3)) :=
  make_cap (m + 20) (by omega) w
theorem Has.madeCap (w : World) (m : Nat) (hm : m ≤ maxLen) : Has [] w (w.alloc (.cells (madeCells #[.int .i64 0] m) 3)) (.ints (.slice (some ⟨w.heap.size, 0, none⟩) 0 m) []) := by
  refine ⟨[w.heap.size], ⟨?_, rfl⟩, by simp, (Kept.refl [] w).alloc _⟩
  exact ⟨rfl, .inr ⟨w.heap.size, m, _, rfl, Nat.zero_le _, heap_alloc_new w _, Nat.zero_le _, hm, by rw [size_madeCells, Nat.mul_one], by simp⟩⟩
theorem append_nilc (g : Addr) (q : Option Addr) (c cap m : Nat) (w : World) (h : m = 0) : (Builtin.append_ #[22, 22] 22 #[.slice (some g) 0 cap, .slice q m c]).run Tryd.prog w = .ok (.slice (some g) 0 cap) w := by
  subst h
  cases q <;> kernel_rfl

/-- A sweep's own part ahead of all else. -/
theorem sw_take {nv2 : Value} {l : List Int} (h : Has o w0 w ((((Part.store b A).sep R).sep C).sep ((Part.ints nv2 l).sep K))) : Has o w0 w (((Part.store b A).sep (K.sep (.ints nv2 l))).sep (R.sep C)) := by
  have h1 := h.assoc.assoc
  obtain ⟨o', h', _, _, b'⟩ := h1.right
  have h2 := h'.assoc'.swap
  obtain ⟨o2, h3, _, _, b2⟩ := h2.left
  exact (b' _ _ (b2 _ _ h3.swap)).assoc'

/-- The nodes and all numbers, read; a store among the latter. -/
theorem al_at {nv : Value} {nl al : List Int} {vp : Option Addr} {n c : Nat} (h : Has o w0 w (X.sep (R.sep ((Part.ints nv nl).sep (.ints (.slice vp n c) al))))) (hn : n = al.length) {k : Nat} (hk : k < al.length) :
    ∃ g, vp = some ⟨g, 0, none⟩ ∧ w.cell? ⟨g, k, none⟩ = some (.int .i64 (al.getD k 0)) ∧ w.frozen? ⟨g, k, none⟩ = false ∧ ∀ y : Int, Has o w0 (w.setCell ⟨g, k, none⟩ (.int .i64 y)) (X.sep (R.sep ((Part.ints nv nl).sep (.ints (.slice vp n c) (al.set k y))))) := by
  subst hn
  obtain ⟨_, h1, _, _, b1⟩ := h.right
  obtain ⟨_, h2, _, _, b2⟩ := h1.right
  obtain ⟨_, h3, _, _, b3⟩ := h2.right
  rcases row_val (ap_row h3) with ⟨_, h0⟩ | ⟨g, cap, e, _⟩
  · omega
  obtain ⟨rfl, rfl⟩ : vp = some ⟨g, 0, none⟩ ∧ c = cap := by simpa using e
  obtain ⟨c0, z0⟩ := Has.rowCell h3 k (.int .i64 (al.getD k 0)) (by rw [List.getElem?_map, List.getD_eq_getElem?_getD, List.getElem?_eq_getElem hk]; rfl)
  refine ⟨g, rfl, c0, z0, fun y => b1 _ _ (b2 _ _ (b3 _ _ ?_))⟩
  have := Has.setRow h3 k (.int .i64 y) hk
  unfold Part.ints
  rw [List.length_set, List.map_set]
  exact this
/-- The last numbers, read. -/
theorem last_at {al : List Int} {vp : Option Addr} {n c : Nat} (h : Has o w0 w (X.sep (.ints (.slice vp n c) al))) (hn : n = al.length) {k : Nat} (hk : k < al.length) :
    ∃ g, vp = some ⟨g, 0, none⟩ ∧ w.cell? ⟨g, k, none⟩ = some (.int .i64 (al.getD k 0)) := by
  subst hn
  obtain ⟨_, h3, _⟩ := h.right
  rcases row_val (ap_row h3) with ⟨_, h0⟩ | ⟨g, cap, e, _⟩
  · omega
  obtain ⟨rfl, rfl⟩ : vp = some ⟨g, 0, none⟩ ∧ c = cap := by simpa using e
  obtain ⟨c0, z0⟩ := Has.rowCell h3 k (.int .i64 (al.getD k 0)) (by rw [List.getElem?_map, List.getD_eq_getElem?_getD, List.getElem?_eq_getElem hk]; rfl)
  exact ⟨g, rfl, c0⟩
theorem range_snoc (z : Nat → Int) (i : Nat) : (List.range (i + 1)).map z = (List.range i).map z ++ [z i] := by rw [List.range_succ, List.map_append]; rfl
theorem nl_at {nv : Value} {nl : List Int} (h : Has o w0 w (X.sep (R.sep ((Part.ints nv nl).sep C)))) : RowAt w nv nl.length (fun k => .int .i64 (nl.getD k 0)) := by
  obtain ⟨_, h1, _, _, b1⟩ := h.right
  obtain ⟨_, h2, _, _, b2⟩ := h1.right
  obtain ⟨_, h3, _⟩ := h2.left
  exact h3.intsAt

def lens (A : ASt) (ch : Nat → List Nat) : List Int → Nat
  | [] => 0
  | x :: l => (chL A ch x).length + lens A ch l
theorem lens_snoc (A : ASt) (ch : Nat → List Nat) (l : List Int) (x : Int) : lens A ch (l ++ [x]) = lens A ch l + (chL A ch x).length := by
  induction l with
  | nil => simp [lens]
  | cons y l ih => simp only [List.cons_append, lens, ih]; omega
theorem costs_lens (A : ASt) (ch : Nat → List Nat) (l : List Int) : costs A ch l = 3 * lens A ch l + 2 * l.length := by
  induction l with
  | nil => rfl
  | cons x l ih => simp only [costs, lens, cost, ih, List.length_cons]; omega
theorem chL_len {A : ASt} (hc : Chs A ch) (x : Int) : (chL A ch x).length ≤ A.nV := by
  unfold chL
  split
  · rename_i hN
    obtain ⟨j, rfl, hj, ej, _⟩ := isN_head hc hN
    rw [ej]; exact chain_len hc hj
  · exact Nat.zero_le _
theorem lens_le {A : ASt} (hc : Chs A ch) (l : List Int) : lens A ch l ≤ A.nV * l.length := by
  induction l with
  | nil => exact Nat.zero_le _
  | cons x l ih =>
    have := chL_len hc x
    simp only [lens, List.length_cons]
    rw [Nat.mul_succ]; omega

theorem sw_take2 {nv2 : Value} {l : List Int} (h : Has o w0 w (((((Part.store b A).sep R).sep N).sep C).sep ((Part.ints nv2 l).sep K))) : Has o w0 w (((Part.store b A).sep (K.sep (.ints nv2 l))).sep (R.sep (N.sep C))) := by
  obtain ⟨o1, h1, _, _, b1⟩ := h.left
  exact sw_take (b1 _ _ h1.assoc)
theorem range_getD (al : List Int) : (List.range al.length).map (fun k => al.getD k 0) = al := by
  refine List.ext_getElem (by simp) fun i h1 h2 => ?_
  rw [List.getElem_map, List.getElem_range, List.getD_eq_getElem?_getD, List.getElem?_eq_getElem h2]; rfl
theorem cur_start {fv : Value} {gone : Int} {dn : Bool} {nv : Value} {l : List Int} {cur : Value} (h : Has o w0 w (.sw b ob A cur mark fv gone dn nv l)) : CurAt nv nv l l := by
  rcases sw_view h with ⟨e, h0⟩ | ⟨g, cap, e, h1, h2⟩
  · exact .inl ⟨h0, none, 0, e⟩
  · cases l with
    | nil => exact .inl ⟨rfl, _, cap, e⟩
    | cons x l =>
      have h3 : maxLen ≤ 9223372036854775807 := by decide
      simp only [List.length_cons] at h1 e ⊢
      refine .inr ⟨g, 0, l.length, cap - 1, cap, by rw [e]; rfl, by rw [e, show cap - 1 + 1 = cap by omega], by simp, by omega, by omega, rfl⟩
theorem getD_set (l : List Int) (a b : Nat) (y : Int) (ha : a < l.length) : (l.set a y).getD b 0 = if a = b then y else l.getD b 0 := by
  rw [List.getD_eq_getElem?_getD, List.getElem?_set, List.getD_eq_getElem?_getD]
  by_cases e : a = b
  · subst e; rw [if_pos rfl, if_pos rfl, if_pos ha]; rfl
  · rw [if_neg e, if_neg e]
theorem list_back (al al' : List Int) (m i : Nat) (z : Nat → Int) (h : nodesL m ++ (List.range i).map z = al) (hl : al'.length = m + i) (h1 : ∀ r, r < i → al'.getD (m + r) 0 = z r) (h2 : ∀ r, r < m → al'.getD r 0 = (nodesL m).getD r 0) : al' = al := by
  subst h
  refine List.ext_getElem (by simp [hl, nodesL_len]) fun r ha hb => ?_
  have e : al'[r] = al'.getD r 0 := by rw [List.getD_eq_getElem?_getD, List.getElem?_eq_getElem ha]; rfl
  rw [e]
  by_cases hr : r < m
  · rw [h2 r hr, List.getElem_append_left (by rw [nodesL_len]; exact hr), List.getD_eq_getElem?_getD, List.getElem?_eq_getElem (by rw [nodesL_len]; exact hr)]; rfl
  · obtain ⟨r', rfl⟩ : ∃ r', r = m + r' := ⟨r - m, by omega⟩
    rw [h1 r' (by omega), List.getElem_append_right (by rw [nodesL_len]; omega)]
    simp [nodesL_len]
theorem tkA_ab (mark : Int) (A : ASt) (ch : Nat → List Nat) (i : Nat) (vs : List Nat) : (tkA mark A ch i vs).1.ab = A.ab := by
  have hcut : ∀ v post, (A.cutV v post).ab = A.ab := fun v post => by unfold ASt.cutV; rw [(goneAll_same _ _).2.1, A.ab_set]
  rcases tkA_eq mark A ch i vs with ⟨h, _⟩ | ⟨s, _, _, h⟩ | ⟨_, _, _, h⟩
  · rw [h]
  · rw [h]; exact hcut _ _
  · rw [h]; exact hcut _ _
theorem fold_ab (mark : Int) (l : List Int) (t : Tri) : (l.foldl (one mark) t).1.ab = t.1.ab := by
  induction l generalizing t with
  | nil => rfl
  | cons x l ih =>
    rw [List.foldl_cons, ih]
    unfold one
    cases chL t.1 t.2.1 x with
    | nil => rfl
    | cons u r => exact tkA_ab _ _ _ _ _
def to20 (n : Nat) : Nat := if n < 20 then n else 20
theorem to20_le (n : Nat) : to20 n ≤ 20 ∧ to20 n ≤ n := by unfold to20; split <;> omega

set_option maxHeartbeats 16000000 in
set_option maxRecDepth 100000 in
theorem takes_law (w : World) (hT : TabAt w) (p : Option Addr) (n cap : Nat) (c : Nat → CV) (hin : ChIn w p n c) (hn : n ≤ 9000000000000000000) (pm : Option Addr) (nm cm : Nat) (z : Nat → Int) (him : InRow w pm nm z) (hnm : nm ≤ 140737488351232 / 8) (mark : Int) :
    Calls Tryd.prog 6 #[.slice p n cap, .slice pm nm cm, .int .i64 mark] w fun e w' => e = .returned (.bool true) ∧ Kept [] w w' := by
  have HT := Lib.hid hT
  have HIN := Lib.hid hin
  have HIM := Lib.hid him
  obtain ⟨i0, hi0, hz0, hz1, hz2⟩ := info_parts info_int
  clear hT hin him
  go_enter Tryd.func6, Tryd.ntmps6
  go_wp2_with fail
  refine (shown_calls w HT.out).mono ?_
  rintro e w1 ⟨rfl, hk⟩
  have HK1 := Lib.hid hk
  have HLD := Lib.hid (laid_walk w1 (HT.out.kept hk (by simp)) p n cap c (HIN.out.kept hk) hn)
  clear hk
  go_wp2_with fail
  refine HLD.out.mono ?_
  rintro e w2 ⟨b, ab, rb, nv, rfl, hX⟩
  obtain ⟨A, ch, rs, m, hm, hab, hL, hV, hX⟩ := hX
  have hm20 : m ≤ 20 := by rw [hm]; split <;> omega
  have HAB := Lib.hid hab
  have HL := Lib.hid hL
  have hV6 : A.nV ≤ 600 := by omega
  obtain ⟨_, h1, _⟩ := hX.right
  obtain ⟨np, nc, rfl⟩ := ap_ints h1
  rw [nodesL_len] at hX h1
  rw [nodesL_len]
  have HX2 := Lib.hid hX
  have hmk := fun w => make_nodes m (by omega) w
  have hmk2 : 0 ≤ (m : Int) + 20 := by omega
  have e9 : IntKind.i64.wrap ((m : Int) + 20) = (m : Int) + 20 := by unfold IntKind.wrap; simp [IntKind.bits, IntKind.signed]; omega
  have HA := Lib.hid (hX.beside (Has.madeCap w2 (m + 20) (by simp only [maxLen]; omega)))
  clear hm hab hL hV hX h1 HLD
  by_cases hm0 : m = 0
  case' pos =>
    have HM0 := Lib.hid hm0
    clear hm0
    go_wp2_with (at_builtin; refine wpList_append_zero rfl (.tmp 43) (.tmp 44) 22 rfl _ _ _ rfl rfl (append_nilc _ _ _ _ _ _ HM0.out) ?_)
    have hX5 : Has [] w1 (w2.alloc (.cells (madeCells #[.int .i64 0] (m + 20)) 3)) (((Part.two b rb A A rs).sep (.ints (.slice np m nc) (nodesL m))).sep (.ints (.slice (some ⟨w2.heap.size, 0, none⟩) 0 (m + 20)) (nodesL m))) := by
      have h := HA.out
      rw [show nodesL m = [] by rw [HM0.out]; rfl] at h ⊢
      exact h
    have HX5 := Lib.hid hX5
    clear hX5
    generalize w2.alloc (.cells (madeCells #[.int .i64 0] (m + 20)) 3) = w5 at *
    generalize (Value.slice (some ⟨w2.heap.size, 0, none⟩) 0 (m + 20)) = v' at *
  case' neg =>
    obtain ⟨oq, hq1, _, _, bq⟩ := HA.out.right
    have HROW := Lib.hid (ap_row hq1)
    obtain ⟨_, hq2, _⟩ := (HX2.out.alloc (.cells (madeCells #[.int .i64 0] (m + 20)) 3)).right
    obtain ⟨p9, c9, e9, hc9⟩ := hq2.intsAt
    obtain ⟨gq, oq9, hp9, _, hcell9⟩ := hc9 (by rw [nodesL_len]; omega)
    obtain ⟨rfl, rfl⟩ : np = p9 ∧ nc = c9 := by rw [nodesL_len] at e9; simpa using e9
    subst hp9
    have HNC := Lib.hid (nats_cells (m := m) (b := gq) (off := oq9) (z := fun k => (nodesL m).getD k 0) (w := w2.alloc (.cells (madeCells #[.int .i64 0] (m + 20)) 3)) (fun i hi => hcell9 i (by rw [nodesL_len]; exact hi)))
    have hnm9 : (List.range m).map (fun k => (nodesL m).getD k 0) = nodesL m := by
      refine List.ext_getElem (by simp [nodesL_len]) fun i h1 h2 => ?_
      rw [List.getElem_map, List.getElem_range, List.getD_eq_getElem?_getD, List.getElem?_eq_getElem h2]; rfl
    rw [hnm9] at HNC
    clear hcell9 hc9 hq2 hnm9 hm0 e9
    go_wp2_with (at_builtin; refine wpList_append_new rfl (.tmp 43) (.tmp 44) 22 rfl 3 i0 (.int .i64 0) 1 8 Tryd.underlying22 hi0 hz0 hz1 hz2 rfl (by decide) _ _ _ rfl HROW.out ⟨gq, oq9, none⟩ m nc ((nodesL m).map (Value.int .i64)) rfl (by simp [nodesL_len]) HNC.out (by simp [Value.oneCell']) (by simp only [maxLen, List.length_nil]; omega) (by simp only [List.length_nil]; omega) ?_)
    intro v' w5 happ
    have hlen0 : 0 + m = (nodesL m).length := by simp [nodesL_len]
    have happ' : Appended (w2.alloc (.cells (madeCells #[.int .i64 0] (m + 20)) 3)) w5 3 1 (.slice (some ⟨w2.heap.size, 0, none⟩) 0 (m + 20)) v' (nodesL m).length ((nodesL m).map (Value.int .i64)) := by first | exact hlen0 ▸ happ | simpa [nodesL_len] using happ
    have hX5 := bq _ _ (Has.moreInts0 (l' := nodesL m) hq1 happ')
    have HX5 := Lib.hid hX5
    clear happ happ' hlen0 hX5 HROW HNC bq hq1
    generalize hnpq : (some (⟨gq, oq9, none⟩ : Addr)) = np at *
    clear hnpq
  all_goals (
    clear HA HX2 hmk
    (try go_wp2_with fail)
    go_loopg [13, 14] 20 (fun k av iv wr => ∃ i : Nat, i ≤ nm ∧ i ≤ 20 ∧ k = 20 - i ∧ iv = .int .i64 i ∧ Has [] w1 wr (((Part.two b rb A A rs).sep (.ints (.slice np m nc) (nodesL m))).sep (.ints av (nodesL m ++ (List.range i).map z))))
    case atStart => exact ⟨0, Nat.zero_le _, Nat.zero_le _, rfl, rfl, by simpa using HX5.out⟩
    case round =>
      clear HX5
      obtain ⟨i, hi, hi20, hk, rfl, hX⟩ := hrel
      have HKK := Lib.hid hk
      have HX := Lib.hid hX
      clear hk hX
      have hm9 : nm ≤ 9223372036854775807 := by omega
      by_cases hlt : i < nm ∧ i < 20
      · obtain ⟨hinm, hi2⟩ := hlt
        have d1 : decide ((i : Int) < (nm : Int)) = true := by simp; omega
        have d1' : decide (i < nm) = true := by simp; omega
        have d2 : decide ((i : Int) < 20) = true := by simp; omega
        have d2' : decide (i < 20) = true := by simp; omega
        have q1 : 0 ≤ (i : Int) ∧ (i : Int) < (nm : Int) := by omega
        obtain ⟨gm, om, rfl, _, hcm⟩ := HIM.out.2 (by omega)
        have cm1 := (HK1.out.tr HX.out.keeps).cell (hcm i hinm) (by simp)
        obtain ⟨_, h1, _⟩ := HX.out.right
        obtain ⟨ap, ac, rfl⟩ := ap_ints h1
        have hlen : (nodesL m ++ (List.range i).map z).length = m + i := by simp [nodesL_len]
        have HSN := Lib.hid (show nodesL m ++ (List.range (i + 1)).map z = (nodesL m ++ (List.range i).map z) ++ [z i] by rw [range_snoc, List.append_assoc])
        generalize hal : nodesL m ++ (List.range i).map z = al at *
        clear hal
        have HROW := Lib.hid (ap_row (h1.alloc (.cells #[.int .i64 (z i)] 3)))
        rw [hlen] at HROW HX
        rw [hlen]
        obtain ⟨x, hx⟩ : ∃ x, z i = x := ⟨_, rfl⟩
        rw [hx] at cm1 HROW
        have HXX := Lib.hid hx
        clear h1 hcm hx
        go_wp2_with (at_builtin; refine wpList_append_new rfl (.tmp 56) (.tmp 61) 22 rfl 3 i0 (.int .i64 0) 1 8 Tryd.underlying22 hi0 hz0 hz1 hz2 rfl (by decide) _ _ _ rfl HROW.out ⟨_, 0, none⟩ 1 1 [.int .i64 x] rfl rfl (cell_one _ _ _ _ (by simp)) (by intro u hu; simp at hu; subst hu; rfl) (by simp only [maxLen]; omega) (by omega) ?_)
        intro v6 w6 happ
        have hX6 := ints_append (x := x) _ (by rw [← hlen] at HX; exact HX.out) (by rw [hlen]; exact happ)
        rw [show [x] = [z i] by rw [HXX.out], ← HSN.out] at hX6
        have HX6 := Lib.hid hX6
        clear happ hX6 HROW HX
        go_wp2_with fail
        go_roundg (20 - (i + 1))
        case measure => rw [HKK.out]; omega
        case rel => exact ⟨i + 1, by omega, by omega, rfl, by go_num, HX6.out⟩
      · have HST := Lib.hid (show (i < nm ∧ decide ((i : Int) < (nm : Int)) = true ∧ decide (i < nm) = true ∧ decide ((i : Int) < 20) = false ∧ decide (i < 20) = false) ∨ (decide ((i : Int) < (nm : Int)) = false ∧ decide (i < nm) = false) from by
          by_cases h1 : i < nm
          · left; simp; omega
          · right; simp; omega)
        have HIE := Lib.hid (show i = to20 nm from by unfold to20; split <;> omega)
        rcases HST.out with ⟨_, x1, x2, x3, x4⟩ | ⟨x1, x2⟩
        all_goals (
          clear hlt HKK
          have hlen : (nodesL m ++ (List.range i).map z).length = m + i := by simp [nodesL_len]
          generalize hal : nodesL m ++ (List.range i).map z = al at HX hlen
          have HAL := Lib.hid hal
          clear hal
          obtain ⟨q, hq⟩ : ∃ q, q = m + i := ⟨_, rfl⟩
          rw [← hq] at hlen
          have hq40 : q ≤ 40 := by omega
          have HQ := Lib.hid hq
          clear hq
          obtain ⟨_, h1, _⟩ := HX.out.right
          obtain ⟨vp, vc, rfl⟩ := ap_ints h1
          rw [hlen] at HX
          have HLEN := Lib.hid hlen
          have HLE := Lib.hid (lens_le HL.out.chs)
          have HOK := Lib.hid (pair_ok HX.out.fst)
          rw [hlen]
          clear h1 hlen
          go_wp2_with fail
          go_loopg [15, 16] q (fun k sv jv wr => ∃ j : Nat, j ≤ q ∧ k = q - j ∧ sv = .int .i64 (lens A ch (al.take j) : Nat) ∧ jv = .int .i64 j ∧ Has [] w1 wr (((Part.two b rb A A rs).sep (.ints (.slice np m nc) (nodesL m))).sep (.ints (.slice vp q vc) al)))
          case atStart => exact ⟨0, Nat.zero_le _, rfl, rfl, rfl, HX.out⟩
          case round =>
            clear HX
            obtain ⟨j, hj, hk, rfl, rfl, hX⟩ := hrel
            have HKK := Lib.hid hk
            have HX := Lib.hid hX
            clear hk hX
            by_cases hjq : j < q
            · have g1 : decide ((j : Int) < (q : Int)) = true := by simp; omega
              have g1' : decide (j < q) = true := by simp; omega
              have q2 : 0 ≤ (j : Int) ∧ (j : Int) < (q : Int) := by omega
              obtain ⟨ga, rfl, ca⟩ := last_at HX.out HLEN.out.symm (k := j) (by rw [HLEN.out]; exact hjq)
              obtain ⟨x, hx⟩ : ∃ x, al.getD j 0 = x := ⟨_, rfl⟩
              rw [hx] at ca
              have HSN := Lib.hid (show lens A ch (al.take (j + 1)) = lens A ch (al.take j) + (chL A ch x).length by
                rw [← lens_snoc]
                congr 1
                have hja : j < al.length := by rw [HLEN.out]; exact hjq
                rw [List.take_add_one, List.getElem?_eq_getElem hja, ← hx, List.getD_eq_getElem?_getD, List.getElem?_eq_getElem hja]; rfl)
              have HCH := Lib.hid (rchain_two (s := A.steps) HX.out.assoc HL.out.chs x (by omega))
              have b1 : lens A ch (al.take j) ≤ 600 * 40 := by
                have := HLE.out (al.take j)
                have h2 : (al.take j).length ≤ 40 := by rw [List.length_take]; omega
                exact Nat.le_trans this (Nat.mul_le_mul hV6 h2)
              have b2 := chL_len HL.out.chs x
              generalize lens A ch (al.take j) = sj at *
              clear HX hx
              go_wp2_with fail
              refine HCH.out.mono ?_
              rintro e w6 ⟨lv, rfl, hX⟩
              obtain ⟨_, h7, _⟩ := hX.right
              obtain ⟨lp, lc, rfl, _, _⟩ := nums_row h7
              have HX6 := Lib.hid hX.fst.assoc'
              have e7 : IntKind.i64.wrap ((sj : Int) + ((chL A ch x).length : Nat)) = ((sj + (chL A ch x).length : Nat) : Int) := by unfold IntKind.wrap; simp [IntKind.bits, IntKind.signed]; omega
              generalize (chL A ch x).length = ln at *
              clear hX h7 HCH
              go_wp2_with fail
              go_roundg (q - (j + 1))
              case measure => rw [HKK.out]; omega
              case rel => exact ⟨j + 1, by omega, rfl, by rw [HSN.out]; first | rfl | simp, by go_num, HX6.out⟩
            · have g1 : decide ((j : Int) < (q : Int)) = false := by simp; omega
              have g1' : decide (j < q) = false := by simp; omega
              obtain rfl : j = q := by omega
              rw [List.take_of_length_le (by rw [HLEN.out]; exact Nat.le_refl _)]
              have HUS := Lib.hid (show Calls Tryd.prog 19 #[P0 ab] _ fun e w' => e = .returned (.int .i64 (A.used : Nat)) ∧ w' = _ from by
                obtain ⟨_, h1, _⟩ := HX.out.fst.left
                obtain ⟨_, h2, _⟩ := Has.left (A := .store b A) (B := .rstore rb A rs) h1
                have := used_at h2
                rw [HAB.out] at this
                exact this)
              have HVS := Lib.hid (show lens A ch al ≤ 24000 from by
                have h1 := HLE.out al
                rw [HLEN.out] at h1
                exact Nat.le_trans h1 (Nat.mul_le_mul hV6 hq40))
              generalize hvs : lens A ch al = vers at *
              have HVS2 := Lib.hid hvs
              have hzz : ∀ k, k < j → al.getD k 0 = al.getD k 0 := fun _ _ => rfl
              clear hvs hzz
              go_wp2_with fail
              refine HUS.out.mono ?_
              rintro e w6 ⟨rfl, rfl⟩
              have HIR := Lib.hid (show InRow w6 vp j (fun k => al.getD k 0) from ⟨fun e => (by
                  subst e
                  rcases Nat.eq_zero_or_pos j with h | h
                  · exact h
                  · obtain ⟨g, hg, _⟩ := last_at HX.out HLEN.out.symm (k := 0) (by rw [HLEN.out]; exact h)
                    cases hg), fun h0 => by
                  obtain ⟨_, h1, _⟩ := HX.out.right
                  obtain ⟨p2, c2, e2, hc2⟩ := h1.intsAt
                  obtain ⟨rfl, rfl⟩ : vp = p2 ∧ vc = c2 := by rw [HLEN.out] at e2; simpa using e2
                  obtain ⟨g, off, e3, hb, hcell⟩ := hc2 (by rw [HLEN.out]; exact h0)
                  exact ⟨g, off, e3, hb, fun k hk => hcell k (by rw [HLEN.out]; exact hk)⟩⟩)
              have HBG := Lib.hid (begin_sweep w6 (some ⟨b, 0, none⟩) vp j vc (fun k => al.getD k 0) HIR.out (by omega) mark)
              clear HUS
              go_wp2_with fail
              refine HBG.out.mono ?_
              rintro e w7 ⟨ob, nv2, rfl, hX⟩
              have hX7 := HX.out.beside hX
              rw [show (List.range j).map (fun k => al.getD k 0) = al by have := range_getD al; rw [HLEN.out] at this; exact this] at hX7
              have hX7' : Has [] w1 w7 ((Part.sw b ob A nv2 mark (fNode ob) 0 false nv2 al).sep ((Part.rstore rb A rs).sep ((Part.ints (.slice np m nc) (nodesL m)).sep (.ints (.slice vp j vc) al)))) := sw_take2 hX7
              have HX7 := Lib.hid hX7'
              obtain ⟨_, hsw, _⟩ := hX7'.left
              have HGO := Lib.hid (gone_at hsw)
              clear hX hX7 hX7' hsw HX HBG
              go_wp2_with fail
              refine HGO.out.mono ?_
              rintro e w8 ⟨rfl, rfl⟩
              clear HGO
              go_wp2_with fail
              go_loopg [21] j (fun k iv wr => ∃ (d : Nat) (al' : List Int), d ≤ j ∧ k = j - d ∧ iv = .int .i64 d ∧ al'.length = j ∧ Has [] w1 wr ((Part.sw b ob A nv2 mark (fNode ob) 0 false nv2 al).sep ((Part.rstore rb A rs).sep ((Part.ints (.slice np m nc) (nodesL m)).sep (.ints (.slice vp j vc) al')))))
              case atStart => exact ⟨0, al, Nat.zero_le _, rfl, rfl, HLEN.out, HX7.out⟩
              case round =>
                clear HX7
                obtain ⟨d, al', hd, hk, rfl, hal', hX⟩ := hrel
                have HKK := Lib.hid hk
                have HL' := Lib.hid hal'
                have HX := Lib.hid hX
                clear hk hal' hX
                by_cases hdj : d < j
                · have g1 : decide ((d : Int) < (j : Int)) = true := by simp; omega
                  have g1' : decide (d < j) = true := by simp; omega
                  have q2 : 0 ≤ (d : Int) ∧ (d : Int) < (j : Int) := by omega
                  obtain ⟨ga, rfl, ca, za, sa⟩ := al_at HX.out HL'.out.symm (k := d) (by rw [HL'.out]; exact hdj)
                  have HXS := Lib.hid (sa (-7))
                  generalize al'.getD d 0 = xd at *
                  clear HX sa
                  go_wp2_with fail
                  go_roundg (j - (d + 1))
                  case measure => rw [HKK.out]; omega
                  case rel => exact ⟨d + 1, al'.set d (-7), by omega, rfl, by go_num, by rw [List.length_set]; exact HL'.out, HXS.out⟩
                · have g1 : decide ((d : Int) < (j : Int)) = false := by simp; omega
                  have g1' : decide (d < j) = false := by simp; omega
                  obtain rfl : d = j := by omega
                  obtain ⟨os, hs, _, _, bs⟩ := HX.out.left
                  have HRA := Lib.hid (run_alone (S := ⟨A, ch, 0, al, .node⟩) (mark := mark) ⟨nv2, cur_start hs, hs⟩ HL.out.chs trivial (by show A.nV ≤ _; omega) (by have h1 := HOK.out.fit; have h2 := HOK.out.big; show A.used + 3 * 0 ≤ _; omega)
                    (8 + 8 * (d : Int) + 8 * (vers : Int)) (by
                      have h1 : leftS ⟨A, ch, 0, al, .node⟩ = 0 + costs A ch al := rfl
                      rw [h1, costs_lens, HVS2.out, HLEN.out]
                      omega) (by have := HVS.out; omega))
                  have HBS := Lib.hid bs
                  have e1 : IntKind.i64.wrap (8 * (d : Int)) = 8 * (d : Int) := by unfold IntKind.wrap; simp [IntKind.bits, IntKind.signed]; omega
                  have e2 : IntKind.i64.wrap (8 + 8 * (d : Int)) = 8 + 8 * (d : Int) := by unfold IntKind.wrap; simp [IntKind.bits, IntKind.signed]; omega
                  have hvs9 := HVS.out
                  have e3 : IntKind.i64.wrap (8 * (vers : Int)) = 8 * (vers : Int) := by unfold IntKind.wrap; simp [IntKind.bits, IntKind.signed]; omega
                  have e4 : IntKind.i64.wrap (8 + 8 * (d : Int) + 8 * (vers : Int)) = 8 + 8 * (d : Int) + 8 * (vers : Int) := by unfold IntKind.wrap; simp [IntKind.bits, IntKind.signed]; omega
                  clear bs hs HX
                  go_wp2_with fail
                  refine HRA.out.mono ?_
                  rintro e w9 ⟨kk, rfl, hkk, S', st, ⟨cur9, hD⟩, heq, hC9, _, _, hU9⟩
                  have hX9 := HBS.out _ _ hD
                  have HX9 := Lib.hid hX9
                  have HG9 := Lib.hid (gone_at hD)
                  have HS9 := Lib.hid (step_over hD)
                  have HF := Lib.hid heq
                  have HU9 := Lib.hid hU9
                  have hkd : decide (kk > 0) = true := by simpa using hkk
                  clear hD hX9 heq hU9 HBS HRA hkk e1 e2 e3 e4
                  go_wp2_with fail
                  refine HG9.out.mono ?_
                  rintro e w10 ⟨rfl, rfl⟩
                  clear HG9
                  go_wp2_with fail
                  refine HS9.out.mono ?_
                  rintro e w11 ⟨rfl, rfl⟩
                  clear HS9
                  go_wp2_with fail
                  go_loopg [26] 20 (fun k iv wr => ∃ (f : Nat) (al2 : List Int), f ≤ nm ∧ f ≤ 20 ∧ k = 20 - f ∧ iv = .int .i64 f ∧ al2.length = d ∧ (∀ r, r < f → al2.getD (m + r) 0 = z r) ∧ Has [] w1 wr ((Part.sw b ob S'.A cur9 mark (fNode ob) S'.gone true nv2 al).sep ((Part.rstore rb A rs).sep ((Part.ints (.slice np m nc) (nodesL m)).sep (.ints (.slice vp d vc) al2)))))
                  case atStart => exact ⟨0, al', Nat.zero_le _, Nat.zero_le _, rfl, rfl, HL'.out, fun r hr => absurd hr (Nat.not_lt_zero r), HX9.out⟩
                  case round =>
                    clear HX9
                    obtain ⟨f, al2, hf, hf20, hk, rfl, hal2, hz2, hX⟩ := hrel
                    have HKK := Lib.hid hk
                    have HL2 := Lib.hid hal2
                    have HZ2 := Lib.hid hz2
                    have HX := Lib.hid hX
                    clear hk hal2 hz2 hX
                    by_cases hlf : f < nm ∧ f < 20
                    · obtain ⟨hfn, hf2⟩ := hlf
                      have d1 : decide ((f : Int) < (nm : Int)) = true := by simp; omega
                      have d1' : decide (f < nm) = true := by simp; omega
                      have d2 : decide ((f : Int) < 20) = true := by simp; omega
                      have d2' : decide (f < 20) = true := by simp; omega
                      have q1 : 0 ≤ (f : Int) ∧ (f : Int) < (nm : Int) := by omega
                      obtain ⟨gm, om, rfl, _, hcm⟩ := HIM.out.2 (by omega)
                      have cm1 := (HK1.out.tr HX.out.keeps).cell (hcm f hfn) (by simp)
                      have hfi : m + f < d := by have h1 := HIE.out; have h2 := HQ.out; unfold to20 at h1; split at h1 <;> omega
                      have q3 : 0 ≤ (m : Int) + (f : Int) ∧ (m : Int) + (f : Int) < (d : Int) := by omega
                      have q4 : (0 : Int) ≤ (m : Int) + (f : Int) := q3.1
                      have e5 : IntKind.i64.wrap ((m : Int) + (f : Int)) = ((m + f : Nat) : Int) := by unfold IntKind.wrap; simp [IntKind.bits, IntKind.signed]; omega
                      have q5 : 0 ≤ ((m + f : Nat) : Int) ∧ ((m + f : Nat) : Int) < (d : Int) := by omega
                      obtain ⟨ga, rfl, ca, za, sa⟩ := al_at HX.out HL2.out.symm (k := m + f) (by rw [HL2.out]; exact hfi)
                      obtain ⟨x, hx⟩ : ∃ x, z f = x := ⟨_, rfl⟩
                      rw [hx] at cm1
                      have HXX := Lib.hid hx
                      have HXS := Lib.hid (sa x)
                      have HZ3 := Lib.hid (show ∀ r, r < f + 1 → (al2.set (m + f) x).getD (m + r) 0 = z r from fun r hr => by
                        rw [getD_set _ _ _ _ (by rw [HL2.out]; exact hfi)]
                        by_cases e : r = f
                        · subst e; rw [if_pos rfl, HXX.out]
                        · rw [if_neg (by omega)]; exact HZ2.out r (by omega))
                      generalize al2.getD (m + f) 0 = xd at *
                      clear HX sa hcm hx
                      go_wp2_with fail
                      go_roundg (20 - (f + 1))
                      case measure => rw [HKK.out]; omega
                      case rel => exact ⟨f + 1, al2.set (m + f) x, by omega, by omega, rfl, by go_num, by rw [List.length_set]; exact HL2.out, HZ3.out, HXS.out⟩
                    · have HST := Lib.hid (show (f < nm ∧ decide ((f : Int) < (nm : Int)) = true ∧ decide (f < nm) = true ∧ decide ((f : Int) < 20) = false ∧ decide (f < 20) = false) ∨ (decide ((f : Int) < (nm : Int)) = false ∧ decide (f < nm) = false) from by
                        by_cases h1 : f < nm
                        · left; simp; omega
                        · right; simp; omega)
                      have HFI := Lib.hid (show f = i from by have h1 := HIE.out; unfold to20 at h1; split at h1 <;> omega)
                      clear hlf
                      rcases HST.out with ⟨_, x1, x2, x3, x4⟩ | ⟨x1, x2⟩
                      all_goals (
                        go_wp2_with fail
                        go_loopg [27] m (fun k iv wr => ∃ (r0 : Nat) (al3 : List Int), r0 ≤ m ∧ k = m - r0 ∧ iv = .int .i64 r0 ∧ al3.length = d ∧ (∀ r, r < i → al3.getD (m + r) 0 = z r) ∧ (∀ r, r < r0 → al3.getD r 0 = (nodesL m).getD r 0) ∧ Has [] w1 wr ((Part.sw b ob S'.A cur9 mark (fNode ob) S'.gone true nv2 al).sep ((Part.rstore rb A rs).sep ((Part.ints (.slice np m nc) (nodesL m)).sep (.ints (.slice vp d vc) al3)))))
                        case atStart => exact ⟨0, al2, Nat.zero_le _, rfl, rfl, HL2.out, by rw [← HFI.out]; exact HZ2.out, fun r hr => absurd hr (Nat.not_lt_zero r), HX.out⟩
                        case round =>
                          clear HX
                          obtain ⟨r0, al3, hr0, hk, rfl, hal3, hz3, hn3, hX⟩ := hrel
                          have HKK := Lib.hid hk
                          have HL3 := Lib.hid hal3
                          have HZ3 := Lib.hid hz3
                          have HN3 := Lib.hid hn3
                          have HX := Lib.hid hX
                          clear hk hal3 hz3 hn3 hX
                          by_cases hlr : r0 < m
                          · have g1 : decide ((r0 : Int) < (m : Int)) = true := by simp; omega
                            have g1' : decide (r0 < m) = true := by simp; omega
                            have q1 : 0 ≤ (r0 : Int) ∧ (r0 : Int) < (m : Int) := by omega
                            have hrd : r0 < d := by have := HQ.out; omega
                            have q3 : 0 ≤ (r0 : Int) ∧ (r0 : Int) < (d : Int) := by omega
                            obtain ⟨gn, on, rfl, cn⟩ := row_cell (nl_at HX.out) (p := np) (cap := nc) (by rw [nodesL_len]) (k := r0) (by rw [nodesL_len]; exact hlr)
                            obtain ⟨ga, rfl, ca, za, sa⟩ := al_at HX.out HL3.out.symm (k := r0) (by rw [HL3.out]; exact hrd)
                            obtain ⟨x, hx⟩ : ∃ x, (nodesL m).getD r0 0 = x := ⟨_, rfl⟩
                            rw [hx] at cn
                            have HXX := Lib.hid hx
                            have HXS := Lib.hid (sa x)
                            have HZ4 := Lib.hid (show ∀ r, r < i → (al3.set r0 x).getD (m + r) 0 = z r from fun r hr => by
                              rw [getD_set _ _ _ _ (by rw [HL3.out]; exact hrd), if_neg (by omega)]; exact HZ3.out r hr)
                            have HN4 := Lib.hid (show ∀ r, r < r0 + 1 → (al3.set r0 x).getD r 0 = (nodesL m).getD r 0 from fun r hr => by
                              rw [getD_set _ _ _ _ (by rw [HL3.out]; exact hrd)]
                              by_cases e : r0 = r
                              · subst e; rw [if_pos rfl, HXX.out]
                              · rw [if_neg e]; exact HN3.out r (by omega))
                            generalize al3.getD r0 0 = xd at *
                            clear HX sa hx
                            go_wp2_with fail
                            go_roundg (m - (r0 + 1))
                            case measure => rw [HKK.out]; omega
                            case rel => exact ⟨r0 + 1, al3.set r0 x, by omega, rfl, by go_num, by rw [List.length_set]; exact HL3.out, HZ4.out, HN4.out, HXS.out⟩
                          · have g1 : decide ((r0 : Int) < (m : Int)) = false := by simp; omega
                            have g1' : decide (r0 < m) = false := by simp; omega
                            obtain rfl : r0 = m := by omega
                            have hback := list_back al al3 r0 i z HAL.out (HL3.out.trans HQ.out) HZ3.out HN3.out
                            subst hback
                            obtain ⟨o5, h5, _, _, b5⟩ := HX.out.right
                            have hRS := rsweep_walk (mark := mark) h5 HOK.out HL.out.chs vp d vc (fun k => al3.getD k 0) (fun o w hw => by
                              obtain ⟨_, h6, _⟩ := hw.right
                              have := h6.intsAt
                              rw [HL3.out] at this
                              exact this) (by omega) (by omega)
                            have hrg : (List.range d).map (fun k => al3.getD k 0) = al3 := by have := range_getD al3; rw [HL3.out] at this; exact this
                            rw [hrg] at hRS
                            obtain ⟨F, hF⟩ : ∃ F : Tri, al3.foldl (one mark) (A, ch, 0) = F := ⟨_, rfl⟩
                            obtain ⟨k1, k2, k3, k4, k5⟩ := fold_ok (mark := mark) al3 (t := (A, ch, 0)) HOK.out HL.out.chs
                            have k6 := fold_ab mark al3 (A, ch, 0)
                            have hSF : (S'.A, S'.ch, S'.gone) = atT (al3.foldl (one mark) (A, ch, 0)) st := HF.out
                            rw [hF] at hRS k1 k2 k3 k4 k5 k6 hSF
                            have hS1 : S'.A = F.1.at st := congrArg (fun t : Tri => t.1) hSF
                            have hS2 : S'.gone = F.2.2 := congrArg (fun t : Tri => t.2.2) hSF
                            rw [hS1, hS2] at HX b5
                            rw [hS2]
                            have HRS := Lib.hid hRS
                            have HB5 := Lib.hid b5
                            have HC2 := Lib.hid k2
                            have k3' : F.1.used + 3 * F.2.2 = A.used := k3
                            have k6' : F.1.ab = ab := k6.trans HAB.out
                            have HU3 := Lib.hid k3'
                            have HAB6 := Lib.hid k6'
                            have hA6 : A.used ≤ 65536 := by have h1 := HOK.out.fit; have h2 := HOK.out.big; omega
                            have HV4 := Lib.hid (show F.1.nV ≤ 1000000 from by have : F.1.nV = A.nV := k4; omega)
                            clear h5 b5 hRS hrg hF k1 k2 k3 k4 k5 k6 hSF hS1 hS2 k3' k6' HX HF HU9
                            go_wp2_with fail
                            refine HRS.out.mono ?_
                            rintro e w12 ⟨rfl, hX⟩
                            have hX12 := HB5.out _ _ hX
                            have hX13 : Has [] w1 w12 ((Part.two b rb (F.1.at st) F.1 rs).sep (.ints (.slice np r0 nc) (nodesL r0))) := by
                              have h1 : Has [] w1 w12 ((Part.store b (F.1.at st)).sep ((Part.rstore rb F.1 rs).sep (.ints (.slice np r0 nc) (nodesL r0)))) := hX12.weaken (Part.Imp.sep (Part.Imp.fst _ _) (Part.Imp.sep (Part.Imp.refl _) (Part.Imp.fst _ _)))
                              exact h1.assoc'
                            have HSM := Lib.hid (same_walk hX13 HC2.out HV4.out)
                            have e1 : IntKind.i64.wrap (3 * (F.2.2 : Int)) = 3 * (F.2.2 : Int) := by have := HU3.out; unfold IntKind.wrap; simp [IntKind.bits, IntKind.signed]; omega
                            have e2 : IntKind.i64.wrap ((A.used : Int) - 3 * (F.2.2 : Int)) = (F.1.used : Int) := by have := HU3.out; unfold IntKind.wrap; simp [IntKind.bits, IntKind.signed]; omega
                            clear hX hX12 hX13 HRS HB5
                            go_wp2_with fail
                            refine HSM.out.mono ?_
                            rintro e w13 ⟨rfl, s13, hX⟩
                            have HUS := Lib.hid (show Calls Tryd.prog 19 #[P0 ab] w13 fun e w' => e = .returned (.int .i64 (F.1.used : Nat)) ∧ w' = w13 from by
                              obtain ⟨_, h1, _⟩ := hX.left
                              obtain ⟨_, h2, _⟩ := Has.left (A := .store b (F.1.at s13)) (B := .rstore rb F.1 rs) h1
                              have := used_at h2
                              rw [show (F.1.at s13).ab = ab from HAB6.out] at this
                              exact this)
                            have HKE := Lib.hid (HK1.out.tr hX.keeps)
                            clear hX HSM
                            go_wp2_with fail
                            refine HUS.out.mono ?_
                            rintro e w14 ⟨rfl, rfl⟩
                            go_wp2_with fail
                            go_ret
                            exact ⟨rfl, HKE.out⟩)))
end Go.Proofs.YtbodobdllchmgaaDoor
