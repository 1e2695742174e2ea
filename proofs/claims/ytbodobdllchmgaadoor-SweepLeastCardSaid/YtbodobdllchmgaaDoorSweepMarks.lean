/- The walks of Watermark and Keep, and of the document's. -/
import Derived.Test.YtbodobdllchmgaaDoorSweepShown
namespace Go.Proofs.YtbodobdllchmgaaDoor
open Go Go.RowKit
set_option linter.unusedVariables false

/-- The least of a first number and of so many others. -/
def leastF (x : Int) (z : Nat → Int) : Nat → Int
  | 0 => x
  | n + 1 => if z n < leastF x z n then z n else leastF x z n

theorem info_t64 : (Tryd.prog.info? 2).map (fun i => (i.zero, i.size, i.bytes)) = some (some (.int .i64 0), 1, 8) := by kernel_rfl

/-- A slice of times that came in. -/
theorem inRow_kept {w w' : World} {p : Option Addr} {n : Nat} {z : Nat → Int} (h : InRow w p n z) (k : Kept [] w w') : InRow w' p n z := by
  refine ⟨h.1, fun h0 => ?_⟩
  obtain ⟨b, off, e, hb, hc⟩ := h.2 h0
  exact ⟨b, off, e, Nat.lt_of_lt_of_le hb k.size, fun i hi => k.cell (hc i hi) (by simp)⟩

set_option maxHeartbeats 2000000 in
set_option maxRecDepth 100000 in
theorem rmark_walk (w : World) (now : Int) (p : Option Addr) (n cap : Nat) (z : Nat → Int) (hin : InRow w p n z) (hn : n ≤ 140737488351232 / 8) :
    Calls Tryd.prog 15 #[.int .i64 now, .slice p n cap] w fun e w' => e = .returned (.int .i64 (leastF now z n)) ∧ w' = w := by
  have HIN := Lib.hid hin
  clear hin
  go_enter Tryd.func15, Tryd.ntmps15
  go_wp2_with fail
  go_loopg [5, 6] n (fun k lv iv wr => ∃ i : Nat, i ≤ n ∧ k = n - i ∧ iv = .int .i64 i ∧ lv = .int .i64 (leastF now z i) ∧ wr = w)
  case atStart => exact ⟨0, Nat.zero_le _, rfl, rfl, rfl, rfl⟩
  case round =>
    obtain ⟨i, hi, hk, rfl, rfl, rfl⟩ := hrel
    have HKK := Lib.hid hk
    clear hk
    by_cases hlt : i < n
    · have d1 : decide ((i : Int) < (n : Int)) = true := by simp; omega
      have d1' : decide (i < n) = true := by simp; omega
      obtain ⟨b, off, rfl, _, hc⟩ := HIN.out.2 (by omega)
      have c0 := hc i hlt
      clear hc
      have hS : leastF now z (i + 1) = if z i < leastF now z i then z i else leastF now z i := rfl
      have HS := Lib.hid hS
      clear hS
      go_wp2_with fail
      all_goals (
        go_roundg (n - (i + 1))
        case measure => rw [HKK.out]; omega
        case rel => exact ⟨i + 1, by omega, rfl, by go_num, by rw [HS.out]; split <;> first | rfl | omega, rfl⟩)
    · have d1 : decide ((i : Int) < (n : Int)) = false := by simp; omega
      have d1' : decide (i < n) = false := by simp; omega
      obtain rfl : i = n := by omega
      go_wp2_with fail
      go_ret
      exact ⟨rfl, rfl⟩
/-- The numbers of the slice that Watermark makes: the first, then those that came in. -/
theorem least_list (now : Int) (z y : Nat → Int) (n : Nat) (h0 : y 0 = now) (hy : ∀ i, i < n → y (i + 1) = z i) (k : Nat) (hk : k ≤ n) : leastF (y 0) (fun i => y (i + 1)) k = leastF now z k := by
  induction k with
  | zero => exact h0
  | succ k ih =>
    show (if y (k + 1) < leastF _ _ k then y (k + 1) else leastF _ _ k) = if z k < leastF now z k then z k else leastF now z k
    rw [ih (by omega), hy k (by omega)]

set_option maxHeartbeats 2000000 in
set_option maxRecDepth 100000 in
theorem min_walk (w : World) (v : Value) (n : Nat) (y : Nat → Int) (hr : RowAt w v (n + 1) (fun k => .int .i64 (y k))) (hl9 : n ≤ 100000000000000) :
    Calls Tryd.prog 33 #[v] w fun e w' => e = .returned (.int .i64 (leastF (y 0) (fun i => y (i + 1)) n)) ∧ w' = w := by
  obtain ⟨p, cap, rfl, hc⟩ := hr
  obtain ⟨b, off, rfl, _, hc1⟩ := hc (by omega)
  have c0 := hc1 0 (by omega)
  have HC := Lib.hid hc1
  have d1 : decide ((n : Int) + 1 < 1) = false := by simp; omega
  clear hc hc1
  rw [Nat.add_zero] at c0
  have HY := Lib.hid (show leastF (y 0) (fun i => y (i + 1)) 0 = y 0 from rfl)
  have HYS := Lib.hid (fun i => show leastF (y 0) (fun i => y (i + 1)) (i + 1) = if y (i + 1) < leastF (y 0) (fun i => y (i + 1)) i then y (i + 1) else leastF (y 0) (fun i => y (i + 1)) i from rfl)
  generalize leastF (y 0) (fun i => y (i + 1)) = F at *
  go_enter Tryd.func33, Tryd.ntmps33
  go_wp2_with fail
  go_loopg [3, 4] n (fun k lv iv wr => ∃ i : Nat, i ≤ n ∧ k = n - i ∧ iv = .int .i64 ((i : Int) + 1) ∧ lv = .int .i64 (F i) ∧ wr = w)
  case atStart => exact ⟨0, Nat.zero_le _, rfl, rfl, by rw [HY.out], rfl⟩
  case round =>
    obtain ⟨i, hi, hk, rfl, rfl, rfl⟩ := hrel
    have HKK := Lib.hid hk
    clear hk
    by_cases hlt : i < n
    · have d2 : decide ((i : Int) + 1 < (n : Int) + 1) = true := by simp; omega
      have ci := HC.out (i + 1) (by omega)
      have hb : 0 ≤ (i : Int) + 1 ∧ (i : Int) + 1 < (n : Int) + 1 := by omega
      have hp : ((i : Int) + 1).toNat = i + 1 := by omega
      go_wp2_with fail
      all_goals (
        go_roundg (n - (i + 1))
        case measure => rw [HKK.out]; omega
        case rel => exact ⟨i + 1, by omega, rfl, by go_num, by rw [HYS.out]; split <;> first | rfl | omega, rfl⟩)
    · have d2 : decide ((i : Int) + 1 < (n : Int) + 1) = false := by simp; omega
      obtain rfl : i = n := by omega
      go_wp2_with fail
      go_ret
      exact ⟨rfl, rfl⟩

theorem t64_row (w : World) (now : Int) (g : Nat) (hg : g = w.heap.size) : (w.alloc (.cells #[.int .i64 now] 2)).ownsRow 0 2 1 (.slice (some ⟨g, 0, none⟩) 1 1) 1 [.int .i64 now] := by
  subst hg
  exact ⟨rfl, .inr ⟨w.heap.size, 1, #[.int .i64 now], rfl, Nat.zero_le _, heap_alloc_new w _, Nat.le_refl _, by decide, rfl, rfl⟩⟩

set_option maxHeartbeats 4000000 in
set_option maxRecDepth 100000 in
theorem mark_walk (w : World) (now : Int) (p : Option Addr) (n cap : Nat) (z : Nat → Int) (hin : InRow w p n z) (hn : n ≤ 140737488351232 / 8) :
    Calls Tryd.prog 13 #[.int .i64 now, .slice p n cap] w fun e w' => e = .returned (.int .i64 (leastF now z n)) ∧ Kept [] w w' := by
  obtain ⟨i0, hi0, hz0, hz1, hz2⟩ := info_parts info_t64
  have HROW := Lib.hid (t64_row w now w.heap.size rfl)
  by_cases hpos : 0 < n
  · obtain ⟨b, off, rfl, hb, hcell⟩ := hin.2 hpos
    have HC := Lib.hid (nats_cells (w := w.alloc (.cells #[.int .i64 now] 2)) (b := b) (off := off) (m := n) (z := z) (fun i hi => ((Kept.refl [] w).alloc _).cell (hcell i hi) (by simp)))
    clear hin hcell
    go_enter Tryd.func13, Tryd.ntmps13
    go_wp2_with (at_builtin; refine wpList_append_new rfl (.tmp 6) (.tmp 7) 30 rfl 2 i0 (.int .i64 0) 1 8 Tryd.underlying30 hi0 hz0 hz1 hz2 rfl (by decide) _ _ _ rfl HROW.out ⟨b, off, none⟩ n cap (((List.range n).map z).map (Value.int .i64)) rfl (by simp) HC.out (by intro u hu; simp at hu; obtain ⟨x, _, rfl⟩ := hu; rfl) (by simp only [maxLen]; omega) (by omega) ?_)
    intro v' w5 happ
    have hrow : w5.ownsRow 0 2 1 v' (1 + n) ((now :: (List.range n).map z).map (Value.int .i64)) := by simpa using happ.row
    have hk5 : Kept [] w w5 := by
      have h1 := ((Kept.refl [w.heap.size] w).alloc (.cells #[.int .i64 now] 2)).grown happ.grown (fun k _ e => by simp [Value.ownBlock] at e; simp [e])
      exact h1.mono (fun k hk hm => by simp at hm; omega)
    have hrl : RowAt w5 v' (n + 1) (fun k => .int .i64 ((now :: (List.range n).map z).getD k 0)) := by
      rw [Nat.add_comm]
      refine rowAt_of hrow _ fun i hi => ?_
      rw [List.getElem?_map, List.getD_eq_getElem?_getD, List.getElem?_eq_getElem (by simp; omega)]; rfl
    have hm := min_walk w5 v' n (fun k => (now :: (List.range n).map z).getD k 0) hrl (by omega)
    rw [least_list now z (fun k => (now :: (List.range n).map z).getD k 0) n rfl (fun i hi => by
      show (now :: (List.range n).map z).getD (i + 1) 0 = z i
      rw [List.getD_eq_getElem?_getD, List.getElem?_cons_succ, List.getElem?_map, List.getElem?_range hi]; rfl) n (Nat.le_refl _)] at hm
    have HM := Lib.hid hm
    have HK := Lib.hid hk5
    clear happ hrow hk5 hrl hm
    go_wp2_with fail
    refine HM.out.mono ?_
    rintro e w6 ⟨rfl, rfl⟩
    go_wp2_with fail
    go_ret
    exact ⟨rfl, HK.out⟩
  · obtain rfl : n = 0 := by omega
    have hrl : RowAt (w.alloc (.cells #[.int .i64 now] 2)) (.slice (some ⟨w.heap.size, 0, none⟩) 1 1) (0 + 1) (fun _ => .int .i64 now) := rowAt_of HROW.out _ fun i hi => match i, hi with | 0, _ => rfl
    have HM := Lib.hid (min_walk (w.alloc (.cells #[.int .i64 now] 2)) _ 0 (fun _ => now) hrl (by omega))
    clear hin hrl
    have happ0 : ∀ (q : Option Addr) (W : World), (Builtin.append_ #[30, 30] 30 #[.slice (some ⟨w.heap.size, 0, none⟩) 1 1, .slice q 0 cap]).run Tryd.prog W = .ok (.slice (some ⟨w.heap.size, 0, none⟩) 1 1) W := fun q W => by cases q <;> kernel_rfl
    go_enter Tryd.func13, Tryd.ntmps13
    go_wp2_with (at_builtin; refine wpList_append_zero rfl (.tmp 6) (.tmp 7) 30 rfl _ _ _ rfl rfl (happ0 _ _) ?_)
    go_wp2_with fail
    refine HM.out.mono ?_
    rintro e w6 ⟨rfl, rfl⟩
    go_wp2_with fail
    go_ret
    exact ⟨rfl, (Kept.refl [] w).alloc _⟩
end Go.Proofs.YtbodobdllchmgaaDoor
