/- The walks of what the turns call: slices.Min, slices.Index, the reference's come, the program's own come. -/
import Derived.Test.YtfipoadgfebibaaDoorPlainTurns
import Derived.Test.YtfipoadgfebibaaDoorLawApart07
namespace Go.Proofs.YtfipoadgfebibaaDoor
open Go Go.RowKit
set_option linter.unusedVariables false

/-- The least of the first k + 1. -/
def minTo (x : Nat → Int) : Nat → Int
  | 0 => x 0
  | k + 1 => if x (k + 1) < minTo x k then x (k + 1) else minTo x k

theorem minTo_le (x : Nat → Int) (k i : Nat) (h : i ≤ k) : minTo x k ≤ x i := by
  induction k with
  | zero => obtain rfl : i = 0 := by omega
            exact Int.le_refl _
  | succ k ih =>
    unfold minTo
    by_cases e : i = k + 1
    · subst e; split <;> omega
    · have := ih (by omega); split <;> omega

theorem minTo_mem (x : Nat → Int) (k : Nat) : ∃ i, i ≤ k ∧ minTo x k = x i := by
  induction k with
  | zero => exact ⟨0, Nat.le_refl _, rfl⟩
  | succ k ih =>
    unfold minTo
    obtain ⟨i, hi, e⟩ := ih
    split
    · exact ⟨k + 1, Nat.le_refl _, rfl⟩
    · exact ⟨i, by omega, e⟩

set_option maxHeartbeats 1000000 in
set_option maxRecDepth 100000 in
theorem min_walk (w : World) (v : Value) (n : Nat) (x : Nat → Int) (h : RowAt w v n (fun i => .int .i64 (x i))) (h1 : 1 ≤ n) (h9 : n ≤ 16) :
    Calls Tryd.prog 26 #[v] w fun e w' => e = .returned (.int .i64 (minTo x (n - 1))) ∧ w' = w := by
  obtain ⟨p, cap, rfl, hA⟩ := h
  obtain ⟨b, off, rfl, _, hA⟩ := hA (by omega)
  have HA := Lib.hid hA
  have c0 := hA 0 (by omega)
  simp only [Nat.add_zero] at c0
  have d0 : decide ((n : Int) < 1) = false := by simp; omega
  have d0' : decide (n < 1) = false := by simp; omega
  have d1 : 0 < n := by omega
  clear hA
  go_enter Tryd.func26, Tryd.ntmps26
  go_wp2_with fail
  go_loopg [3, 4] (n - 1) (fun k mv iv wr => ∃ i : Nat, 1 ≤ i ∧ i ≤ n ∧ k = n - i ∧ iv = .int .i64 i ∧ mv = .int .i64 (minTo x (i - 1)) ∧ wr = w)
  case atStart => exact ⟨1, Nat.le_refl _, by omega, rfl, rfl, rfl, rfl⟩
  case round =>
    obtain ⟨i, hi1, hi, hk, rfl, rfl, rfl⟩ := hrel
    have HKK := Lib.hid hk
    clear hk
    by_cases hlt : i < n
    · have hd : decide ((i : Int) < (n : Int)) = true := by simp; omega
      have hd' : decide (i < n) = true := by simp; omega
      have c1 := HA.out i hlt
      have hm : minTo x i = if x i < minTo x (i - 1) then x i else minTo x (i - 1) := by
        obtain ⟨j, rfl⟩ : ∃ j, i = j + 1 := ⟨i - 1, by omega⟩
        rfl
      have HM := Lib.hid hm
      clear hm
      generalize minTo x (i - 1) = m at *
      by_cases hx : x i < m
      · have e0 : decide (x i < m) = true := by simpa using hx
        go_wp2_with fail
        go_roundg (n - (i + 1))
        case measure => rw [HKK.out]; omega
        case rel =>
          refine ⟨i + 1, by omega, by omega, rfl, by go_num, ?_, rfl⟩
          rw [Nat.add_sub_cancel, HM.out]
          rw [if_pos hx]
      · have e0 : decide (x i < m) = false := by simpa using hx
        go_wp2_with fail
        go_roundg (n - (i + 1))
        case measure => rw [HKK.out]; omega
        case rel =>
          refine ⟨i + 1, by omega, by omega, rfl, by go_num, ?_, rfl⟩
          rw [Nat.add_sub_cancel, HM.out]
          rw [if_neg (by omega)]
    · have hd : decide ((i : Int) < (n : Int)) = false := by simp; omega
      have hd' : decide (i < n) = false := by simp; omega
      obtain rfl : i = n := by omega
      go_wp2_with fail
      go_ret
      exact ⟨rfl, rfl⟩

set_option maxHeartbeats 1000000 in
set_option maxRecDepth 100000 in
theorem index_walk (w : World) (v : Value) (n : Nat) (x : Nat → Int) (j : Nat) (h : RowAt w v n (fun i => .int .i64 (x i))) (hj : j < n) (h9 : n ≤ 16) (hne : ∀ i, i < j → x i ≠ x j) :
    Calls Tryd.prog 27 #[v, .int .i64 (x j)] w fun e w' => e = .returned (.int .i64 j) ∧ w' = w := by
  obtain ⟨p, cap, rfl, hA⟩ := h
  obtain ⟨b, off, rfl, _, hA⟩ := hA (by omega)
  have HA := Lib.hid hA
  have HNE := Lib.hid hne
  clear hA hne
  generalize hm : x j = m at *
  have HM := Lib.hid hm
  clear hm
  go_enter Tryd.func27, Tryd.ntmps27
  go_wp2_with fail
  go_loopg [8] (j + 1) (fun k iv wr => ∃ i : Nat, i ≤ j ∧ k = j + 1 - i ∧ iv = .int .i64 i ∧ wr = w)
  case atStart => exact ⟨0, Nat.zero_le _, rfl, rfl, rfl⟩
  case round =>
    obtain ⟨i, hi, hk, rfl, rfl⟩ := hrel
    have HKK := Lib.hid hk
    clear hk
    have hd : decide ((i : Int) < (n : Int)) = true := by simp; omega
    have hd' : decide (i < n) = true := by simp; omega
    have hlt : i < n := by omega
    have c1 := HA.out i hlt
    by_cases e : i = j
    · subst e
      rw [HM.out] at c1
      go_wp2_with fail
      go_ret
      exact ⟨rfl, rfl⟩
    · have hx := HNE.out i (by omega)
      have e0 : decide (m = x i) = false := by simp; exact fun h => hx h.symm
      have e1 : (m == x i) = false := by simp; exact fun h => hx h.symm
      go_wp2_with fail
      go_roundg (j + 1 - (i + 1))
      case measure => rw [HKK.out]; omega
      case rel => exact ⟨i + 1, by omega, rfl, by go_num, rfl⟩

/-- Numbers by a function. -/
noncomputable def Part.nats (v : Value) (n : Nat) (f : Nat → Nat) : Part := .row 3 1 v n ((List.range n).map fun k => .int .i64 (f k : Nat))

theorem Has.natsAt {o : List Nat} {w0 w : World} {v : Value} {n : Nat} {f : Nat → Nat} (h : Has o w0 w (.nats v n f)) : RowAt w v n (fun i => .int .i64 ((f i : Nat) : Int)) :=
  h.rowAt _ fun i hi => by rw [List.getElem?_map, List.getElem?_range hi]; rfl

theorem nats_congr {v : Value} {n : Nat} {f g : Nat → Nat} (h : ∀ k, k < n → f k = g k) : Part.nats v n f = Part.nats v n g := by
  unfold Part.nats
  rw [List.map_congr_left fun k hk => by rw [h k (List.mem_range.1 hk)]]

theorem nats_open {o : List Nat} {w0 w : World} {v : Value} {n : Nat} {f : Nat → Nat} (h : Has o w0 w (.nats v n f)) {k : Nat} (hk : k < n) :
    ∃ g c, v = .slice (some ⟨g, 0, none⟩) n c ∧ w.cell? ⟨g, k, none⟩ = some (.int .i64 ((f k : Nat) : Int)) ∧ w.frozen? ⟨g, k, none⟩ = false ∧
      ∀ u : Nat, Has o w0 (w.setCell ⟨g, k, none⟩ (.int .i64 (u : Int))) (.nats v n (fun j => if j = k then u else f j)) := by
  have hr : w.ownsRow 0 3 1 v n ((List.range n).map fun k => .int .i64 ((f k : Nat) : Int)) := by obtain ⟨fp, ⟨hr, _⟩, _⟩ := h; exact hr
  obtain ⟨g, c, rfl, _, _, _, hf, hc⟩ := row_out hr (by omega)
  refine ⟨g, c, rfl, hc k _ (by rw [List.getElem?_map, List.getElem?_range hk]; rfl), hf k, fun u => ?_⟩
  have h1 := h.setRow k (.int .i64 (u : Int)) hk
  rw [list_set_range n _ _ k (fun j => Value.int .i64 (((if j = k then u else f j : Nat)) : Int)) (fun d hd => by by_cases e : d = k <;> simp [e])] at h1
  exact h1

set_option maxHeartbeats 1000000 in
set_option maxRecDepth 100000 in
theorem rcome_walk {o : List Nat} {w0 w : World} (v : Value) (n : Nat) (f : Nat → Nat) (q : Nat) (h : Has o w0 w (.nats v n f)) (hq : q < n) (h9 : n ≤ 16) (hb : ∀ k, k < n → f k ≤ 100000000) :
    Calls Tryd.prog 28 #[v, .int .i64 q] w fun e w' => e = .returned (.tuple #[]) ∧ Has o w0 w' (.nats v n (fun k => if k = q then 0 else f k + 1)) := by
  obtain ⟨g, c, rfl, _⟩ := nats_open h hq
  have HX0 := Lib.hid h
  have HB := Lib.hid hb
  have hbq : 0 ≤ (q : Int) ∧ (q : Int) < (n : Int) := by omega
  clear h hb
  go_enter Tryd.func28, Tryd.ntmps28
  go_wp2_with fail
  go_loopg [4] n (fun k iv wr => ∃ i : Nat, i ≤ n ∧ k = n - i ∧ iv = .int .i64 i ∧ Has o w0 wr (.nats (.slice (some ⟨g, 0, none⟩) n c) n (fun k => if k < i then f k + 1 else f k)))
  case atStart => exact ⟨0, Nat.zero_le _, rfl, rfl, by simpa using HX0.out⟩
  case round =>
    clear HX0
    obtain ⟨i, hi, hk, rfl, hX⟩ := hrel
    have HKK := Lib.hid hk
    have HX := Lib.hid hX
    clear hk hX
    by_cases hlt : i < n
    · have hd : decide ((i : Int) < (n : Int)) = true := by simp; omega
      have hd' : decide (i < n) = true := by simp; omega
      have hbi : 0 ≤ (i : Int) ∧ (i : Int) < (n : Int) := by omega
      obtain ⟨g', c', he, c0, z0, hput⟩ := nats_open HX.out hlt
      obtain ⟨rfl, rfl⟩ : g = g' ∧ c = c' := by simpa using he
      have hfi := HB.out i hlt
      rw [if_neg (by omega)] at c0
      have HS := Lib.hid (hput (f i + 1))
      clear he hput
      go_wp2_with fail
      go_roundg (n - (i + 1))
      case measure => rw [HKK.out]; omega
      case rel =>
        refine ⟨i + 1, by omega, rfl, by go_num, ?_⟩
        have e : (fun j => if j = i then f i + 1 else if j < i then f j + 1 else f j) = fun k => if k < i + 1 then f k + 1 else f k := funext fun j => by
          by_cases e1 : j = i
          · subst e1; simp
          · by_cases e2 : j < i
            · rw [if_neg e1, if_pos e2, if_pos (by omega)]
            · rw [if_neg e1, if_neg e2, if_neg (by omega)]
        rw [← e]
        exact HS.out
    · have hd : decide ((i : Int) < (n : Int)) = false := by simp; omega
      have hd' : decide (i < n) = false := by simp; omega
      obtain rfl : i = n := by omega
      obtain ⟨g', c', he, c0, z0, hput⟩ := nats_open HX.out hq
      obtain ⟨rfl, rfl⟩ : g = g' ∧ c = c' := by simpa using he
      have HS := Lib.hid (hput 0)
      clear he hput
      go_wp2_with fail
      go_end0
      refine ⟨rfl, ?_⟩
      rw [nats_congr (g := fun j => if j = q then 0 else if j < i then f j + 1 else f j) fun k hk => by simp only [if_pos hk]]
      exact HS.out

/-- What the program's turns hold: the row of who came when, and what has come out; each behind a variable. -/
noncomputable def TurnP (b8 b9 : Nat) (lv ov : Value) (n : Nat) (last : Nat → Nat) (out : List Int) : Part :=
  ((Part.blk b8 1 23 fun _ => lv).sep (.nats lv n last)).sep ((Part.blk b9 1 23 fun _ => ov).sep (.ints ov out))

theorem TurnP.cells {o : List Nat} {w0 w : World} {b8 b9 : Nat} {lv ov : Value} {n : Nat} {last : Nat → Nat} {out : List Int} (h : Has o w0 w (TurnP b8 b9 lv ov n last out)) :
    w.cell? ⟨b8, 0, none⟩ = some lv ∧ w.cell? ⟨b9, 0, none⟩ = some ov ∧ w.frozen? ⟨b9, 0, none⟩ = false ∧ (∃ p c, ov = .slice p out.length c) ∧ w.ownsRow 0 3 1 ov out.length (out.map (Value.int .i64)) ∧ RowAt w lv n (fun i => .int .i64 ((last i : Nat) : Int)) := by
  obtain ⟨o1, h1, _⟩ := h.left
  obtain ⟨o2, h2, _⟩ := h.right
  obtain ⟨o3, ⟨f3, ⟨hb8, _⟩, _⟩, _⟩ := h1.left
  obtain ⟨o4, h4, _⟩ := h1.right
  obtain ⟨o5, ⟨f5, ⟨hb9, _⟩, _⟩, _⟩ := h2.left
  obtain ⟨o6, h6, _⟩ := h2.right
  exact ⟨hb8.cell (by omega), hb9.cell (by omega), hb9.free 0, ap_ints h6, ap_row h6, h4.natsAt⟩

/-- An append to what has come out, stored back. -/
theorem TurnP.push {o : List Nat} {w0 w w5 : World} {b8 b9 : Nat} {lv ov v' : Value} {n : Nat} {last : Nat → Nat} {out : List Int} {x : Int} (ob : Obj) (h : Has o w0 w (TurnP b8 b9 lv ov n last out))
    (happ : Appended (w.alloc ob) w5 3 1 ov v' (out.length + 1) (out.map (Value.int .i64) ++ [.int .i64 x])) :
    w5.cell? ⟨b9, 0, none⟩ = some ov ∧ w5.frozen? ⟨b9, 0, none⟩ = false ∧ Has o w0 (w5.setCell ⟨b9, 0, none⟩ v') (TurnP b8 b9 lv v' n last (out ++ [x])) := by
  obtain ⟨o2, h2, _, _, c2⟩ := h.right
  obtain ⟨o6, h6, _, _, c6⟩ := h2.right
  have h7 := c6 _ _ (Has.moreInts (l' := [x]) ob h6 happ)
  have h8 := c2 _ _ h7
  obtain ⟨p2, k2, _, _, e2⟩ := h8.right
  obtain ⟨p5, k5, _, _, e5⟩ := k2.left
  obtain ⟨f5, ⟨hb9, rfl⟩, hn5, kk⟩ := k5
  refine ⟨hb9.cell (by omega), hb9.free 0, e2 _ _ (e5 _ _ (Has.step hn5 kk ⟨[b9], ⟨(hb9.set 0 v').congr fun i hi => ?_, rfl⟩, fun x hx => .inl hx, (Kept.refl _ w5).set _ (by simp)⟩))⟩
  obtain rfl : i = 0 := by omega
  simp [upd]

theorem TurnP.mark {o : List Nat} {w0 w : World} {b8 b9 : Nat} {lv ov : Value} {n : Nat} {last : Nat → Nat} {out : List Int} (h : Has o w0 w (TurnP b8 b9 lv ov n last out)) {q : Nat} (hq : q < n) :
    ∃ g c, lv = .slice (some ⟨g, 0, none⟩) n c ∧ (∃ u, w.cell? ⟨g, q, none⟩ = some u) ∧ w.frozen? ⟨g, q, none⟩ = false ∧ ∀ u : Nat, Has o w0 (w.setCell ⟨g, q, none⟩ (.int .i64 (u : Int))) (TurnP b8 b9 lv ov n (fun j => if j = q then u else last j) out) := by
  obtain ⟨o1, h1, _, _, c1⟩ := h.left
  obtain ⟨o4, h4, _, _, c4⟩ := h1.right
  obtain ⟨g, c, e, x0, z0, hput⟩ := nats_open h4 hq
  exact ⟨g, c, e, ⟨_, x0⟩, z0, fun u => c1 _ _ (c4 _ _ (hput u))⟩

theorem info_int1 : (Tryd.prog.info? 3).map (fun i => (i.zero, i.size, i.bytes)) = some (some (.int .i64 0), 1, 8) := by kernel_rfl

set_option maxHeartbeats 1000000 in
set_option maxRecDepth 100000 in
theorem pcome_walk {o : List Nat} {w0 w : World} (b8 b9 : Nat) (lv ov : Value) (n : Nat) (last : Nat → Nat) (out : List Int) (q : Nat) (h : Has o w0 w (TurnP b8 b9 lv ov n last out)) (hq : q < n) (h9 : n ≤ 16) (hl : out.length ≤ 100000000) :
    Calls Tryd.prog 25 #[.int .i64 q, .pointer (some ⟨b9, 0, none⟩), .pointer (some ⟨b8, 0, none⟩)] w fun e w' => e = .returned (.tuple #[]) ∧ ∃ ov', Has o w0 w' (TurnP b8 b9 lv ov' n (fun k => if k = q then out.length + 1 else last k) (out ++ [(q : Int)])) := by
  obtain ⟨c8, c9, z9, ⟨p, c, rfl⟩, hrow, _⟩ := TurnP.cells h
  have HX := Lib.hid h
  have HROW := Lib.hid hrow
  obtain ⟨i0, hi0, hz0, hz1, hz2⟩ := info_parts info_int1
  have hbq : 0 ≤ (q : Int) ∧ (q : Int) < (n : Int) := by omega
  clear h hrow
  go_enter Tryd.func25, Tryd.ntmps25
  go_wp2_with (at_builtin; refine wpList_append_new rfl (.tmp 4) (.tmp 6) 23 rfl 3 i0 (.int .i64 0) 1 8 Tryd.underlying23 hi0 hz0 hz1 hz2 rfl (by decide) _ _ _ rfl (HROW.out.alloc _) ⟨_, 0, none⟩ 1 1 [.int .i64 q] rfl rfl (cell_one _ _ _ _ (by simp)) (by simp [Value.oneCell']) (by simp only [maxLen]; omega) (by omega) ?_)
  intro v' w5 happ
  obtain ⟨y9, z9', hP⟩ := TurnP.push _ HX.out happ
  obtain ⟨g', cap', rfl, _, _, _, _, _⟩ := row_out happ.row (by omega)
  have HP := Lib.hid hP
  obtain ⟨d8, _, _, _, _, _⟩ := TurnP.cells hP
  obtain ⟨d8, d9, _, _, _, _⟩ := TurnP.cells hP
  obtain ⟨g, gc, rfl, ⟨u0, x0⟩, zz0, hput⟩ := TurnP.mark hP hq
  have HPUT := Lib.hid (hput (out.length + 1))
  clear happ hP HROW hput c8 c9 z9
  go_wp2_with fail
  go_end0
  have h9 := HPUT.out
  rw [show ((out.length + 1 : Nat) : Int) = (out.length : Int) + 1 by simp] at h9
  exact ⟨rfl, _, h9⟩

set_option maxHeartbeats 1000000 in
set_option maxRecDepth 100000 in
theorem ints_same (w : World) (va vb : Value) (n : Nat) (x : Nat → Int) (ha : RowAt w va n (fun i => .int .i64 (x i))) (hb : RowAt w vb n (fun i => .int .i64 (x i))) (hn : n ≤ maxLen) :
    Calls Tryd.prog 17 #[va, vb] w fun e w' => e = .returned (.bool true) ∧ ∃ q, w' = w.drewN q := by
  obtain ⟨p, cap, rfl, hA⟩ := ha
  obtain ⟨q, qcap, rfl, hB⟩ := hb
  have HA := Lib.hid hA
  have HB := Lib.hid hB
  have HN := Lib.hid hn
  have h9 : n ≤ 9223372036854775807 := Nat.le_trans hn (by simp only [maxLen]; omega)
  clear hA hB hn
  go_enter Tryd.func17, Tryd.ntmps17
  go_wp2_with fail
  go_loopg [5] n (fun k iv wr => ∃ i : Nat, i ≤ n ∧ k = n - i ∧ iv = .int .i64 i ∧ ∃ q, wr = w.drewN q)
  case atStart => exact ⟨0, Nat.zero_le _, rfl, rfl, 0, rfl⟩
  case round =>
    obtain ⟨i, hi, hk, rfl, q0, hK⟩ := hrel
    have HKK := Lib.hid hk
    have HK := Lib.hid ((Kept.refl [] w).drewN q0)
    rw [← hK] at HK
    have HQ := Lib.hid hK
    clear hk hK
    by_cases hlt : i < n
    · have hd : decide ((i : Int) < (n : Int)) = true := by simp; omega
      have hd' : decide (i < n) = true := by simp; omega
      obtain ⟨b1, o1, rfl, _, hc1⟩ := HA.out (by omega)
      obtain ⟨b2, o2, rfl, _, hc2⟩ := HB.out (by omega)
      have c1 := HK.out.cell (hc1 i hlt) (by simp)
      have c2 := HK.out.cell (hc2 i hlt) (by simp)
      clear hc1 hc2
      go_wp2_with fail
      go_quiet (fail)
      go_wp2_with fail
      go_roundg (n - (i + 1))
      case measure => rw [HKK.out]; omega
      case rel => exact ⟨i + 1, by omega, rfl, by go_num, _, by rw [HQ.out, World.drewN_drewN]⟩
    · have hd : decide ((i : Int) < (n : Int)) = false := by simp; omega
      have hd' : decide (i < n) = false := by simp; omega
      go_wp2_with fail
      go_ret
      exact ⟨rfl, q0, HQ.out⟩

end Go.Proofs.YtfipoadgfebibaaDoor
