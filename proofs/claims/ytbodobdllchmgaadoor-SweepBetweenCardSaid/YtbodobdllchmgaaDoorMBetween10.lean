/- The walk of the statements' own 'shown'.
The walks of Watermark and Keep, and of the document's.
The walks of Keep, and of the document's.
The plain law of a sweep: chains, and what a cut, a drop, a push do to them; who is seen. Nothing is claimed of a program here. -/
import Derived.Test.YtbodobdllchmgaaDoorMBetween5
import Derived.Test.YtbodobdllchmgaaDoorMBetween7
import Derived.Test.YtbodobdllchmgaaDoorMBetween9
namespace Go.Proofs.YtbodobdllchmgaaDoor
open Go Go.RowKit
set_option linter.unusedVariables false

variable {o : List Nat} {w0 w : World} {b : Nat} {A : ASt}

theorem newSt_used (ab n : Nat) (st : Int) : (newSt ab n st).used = 0 := rfl
theorem tab_nil : 0 ∉ ([] : List Nat) := by simp

/-- An arena and a store upon it. -/
theorem new_both (w w1 : World) (k : Kept [] w w1) (n : Nat) (h0 : 1 ≤ n) (h1 : n ≤ 65536) :
    Calls Tryd.prog 28 #[.int .i64 n] w1 fun e w' => ∃ ab, e = .returned (.tuple #[.pointer (some ⟨ab, 0, none⟩), .int .i64 0]) ∧ Has [] w w' (.arena ab ⟨n, fun _ => none, 0⟩) := by
  refine (own_new k n (by omega) (by omega)).mono ?_
  rintro e w' ⟨ab, rfl, h⟩
  exact ⟨ab, rfl, Has.ofOwn h⟩

/-- A sweep that was begun. -/
theorem sweep_begin (h : Has o w0 w (.store b A)) (p : Option Addr) (n cap : Nat) (z : Nat → Int) (hin : InRow w p n z) (hn : n ≤ 140737488351232 / 8) (mark : Int) :
    Calls Tryd.prog 10 #[Pt b, .slice p n cap, .int .i64 mark] w fun e w' => ∃ ob nv, e = .returned (Pt ob) ∧ Has o w0 w' (.sw b ob A nv mark (.func (.func 32) #[Pt ob] #[]) 0 false nv ((List.range n).map z)) := by
  refine (begin_sweep w (some ⟨b, 0, none⟩) p n cap z hin hn mark).mono ?_
  rintro e w' ⟨ob, nv, rfl, h'⟩
  refine ⟨ob, nv, rfl, ?_⟩
  have h2 := h.beside h'
  obtain ⟨_, h3, _, _, b3⟩ := h2.right
  exact b3 _ _ h3.swap

theorem sw_view {ob : Nat} {fv nv : Value} {mark gone : Int} {dn : Bool} {l : List Int} {cur : Value} (h : Has o w0 w (.sw b ob A cur mark fv gone dn nv l)) : (nv = .slice none 0 0 ∧ l = []) ∨ ∃ g cap, nv = .slice (some ⟨g, 0, none⟩) l.length cap ∧ l.length ≤ cap ∧ cap ≤ maxLen := by
  obtain ⟨_, h1, _⟩ := Has.right (A := .store b A) h
  obtain ⟨_, h2, _⟩ := h1.right
  rcases row_val (ap_row h2) with ⟨e, h0⟩ | ⟨g, c, e, h3, h4, _⟩
  · exact .inl ⟨e, List.eq_nil_of_length_eq_zero h0⟩
  · exact .inr ⟨g, c, e, h3, h4⟩

set_option maxHeartbeats 4000000 in
set_option maxRecDepth 100000 in
theorem shown_calls (w : World) (hT : TabAt w) :
    Calls Tryd.prog 9 #[] w fun e w' => e = .returned (.bool true) ∧ Kept [] w w' := by
  have HT := Lib.hid hT
  clear hT
  go_enter Tryd.func9, Tryd.ntmps9
  go_wp2_with fail
  refine (new_both w w (Kept.refl _ _) 20 (by omega) (by omega)).mono ?_
  rintro e w1 ⟨ab, rfl, hA⟩
  have HA := Lib.hid hA
  clear hA
  go_wp2_with fail
  refine (new_store (by omega) HA.out).mono ?_
  rintro e w2 ⟨b, rfl, hX⟩
  have HX := Lib.hid hX
  clear hX HA
  go_wp2_with fail
  have HN := Lib.hid (show Calls Tryd.prog 30 #[.pointer (some ⟨b, 0, none⟩)] w2 fun e w' => e = .returned (.tuple #[.int .i64 1, .int .i64 0]) ∧ ∃ st, Has [] w w' (.store b ((newSt ab 20 0).addNode st)) from node_make HX.out HT.out tab_nil (by show (0 : Nat) + 2 ≤ 20; omega))
  refine HN.out.mono ?_
  rintro e w3 ⟨rfl, st3, hX3⟩
  have hA : ((newSt ab 20 0).addNode st3).at_ (.head 0) = some 0 := rfl
  generalize (newSt ab 20 0).addNode st3 = A3 at *
  have HA3 := Lib.hid hA
  have HX3 := Lib.hid (hX3.alloc (.cells #[.int .i64 1] 3))
  have hb := Blk.made w3 #[.int .i64 1] 3 (fun _ => .int .i64 1) 1 rfl (fun i hi => match i, hi with | 0, _ => rfl)
  have HBG := Lib.hid (sweep_begin HX3.out (some ⟨w3.heap.size, 0, none⟩) 1 1 (fun _ => 1) ⟨fun e => (by cases e), fun _ => ⟨w3.heap.size, 0, rfl, hb.lt, fun i hi => by rw [Nat.zero_add]; exact hb.cell hi⟩⟩ (by omega) 5)
  clear hX3 HX HN hA hb
  go_wp2_with fail
  refine HBG.out.mono ?_
  rintro e w4 ⟨ob, nv, rfl, hX⟩
  rcases sw_view hX with ⟨_, h0⟩ | ⟨g, cap, hnv, h1, h2⟩
  · simp at h0
  obtain ⟨c, rfl⟩ : ∃ c, cap = c + 1 := ⟨cap - 1, by simp at h1; omega⟩
  have hl : ((List.range 1).map fun _ => (1 : Int)) = [1] := rfl
  rw [hl] at hX hnv
  have h3 : maxLen ≤ 9223372036854775807 := by decide
  have hruns : Runs ob (fun n W => (n = 1 ∧ Has [] w W (.sw b ob A3 (.slice (some ⟨g, 0, none⟩) (0 + 1) (c + 1)) 5 (.func (.func 32) #[Pt ob] #[]) 0 false nv [1])) ∨ (n = 0 ∧ ∃ A' k', Has [] w W (.sw b ob A' (.slice (some ⟨g, k', none⟩) 0 c) 5 (.func (.func 32) #[Pt ob] #[]) 0 false nv [1])))
      (fun W => ∃ A' cur, Has [] w W (.sw b ob A' cur 5 (.func (.func 32) #[Pt ob] #[]) 0 true nv [1])) := by
    refine ⟨fun n W h => ?_, fun W h => ?_⟩
    · rcases h with ⟨hn, h⟩ | ⟨hn, _⟩
      · obtain rfl : n = 0 := by omega
        refine (step_skip h hnv rfl (by omega) (by omega) (.inr ⟨0, rfl, HA3.out⟩)).mono ?_
        rintro e w' ⟨rfl, st, k', _, h'⟩
        exact ⟨rfl, .inr ⟨rfl, _, k', h'⟩⟩
      · omega
    · rcases h with ⟨hn, h⟩ | ⟨_, A', k', h⟩
      · omega
      · refine (step_end h).mono ?_
        rintro e w' ⟨rfl, h'⟩
        exact ⟨rfl, _, _, h'⟩
  have hstart : Has [] w w4 (.sw b ob A3 (.slice (some ⟨g, 0, none⟩) (0 + 1) (c + 1)) 5 (.func (.func 32) #[Pt ob] #[]) 0 false nv [1]) := by
    rw [hnv] at hX ⊢; exact hX
  have HD := Lib.hid (done_walk hruns 1 100 (by omega) (by omega) (.inl ⟨rfl, hstart⟩))
  clear hX hnv h1 h2 h3 hl hruns hstart HBG
  go_wp2_with fail
  refine HD.out.mono ?_
  rintro e w5 ⟨rfl, A', cur, hX⟩
  have HG := Lib.hid (gone_at hX)
  have HK := Lib.hid hX.keeps
  clear hX HD
  go_wp2_with fail
  refine HG.out.mono ?_
  rintro e w6 ⟨rfl, rfl⟩
  go_wp2_with fail
  go_ret
  exact ⟨rfl, HK.out⟩
end Go.Proofs.YtbodobdllchmgaaDoor
namespace Go.Proofs.YtbodobdllchmgaaDoor
open Go Go.RowKit
set_option linter.unusedVariables false

/-- The least of a first number and of so many others. -/
def leastF (x : Int) (z : Nat → Int) : Nat → Int
  | 0 => x
  | n + 1 => if z n < leastF x z n then z n else leastF x z n

theorem info_t64 : (Tryd.prog.info? 2).map (fun i => (i.zero, i.size, i.bytes)) = some (some (.int .i64 0), 1, 8) := by kernel_rfl

/-- A slice of times that came in. -/
theorem inRow_kept {w w' : World} {p : Option Addr} {n : Nat} {z : Nat → Int} (h : InRow w p n z) (k : Kept [] w w') : InRow w' p n z := by
  refine ⟨h.1, fun h0 => ?_⟩
  obtain ⟨b, off, e, hb, hc⟩ := h.2 h0
  exact ⟨b, off, e, Nat.lt_of_lt_of_le hb k.size, fun i hi => k.cell (hc i hi) (by simp)⟩

set_option maxHeartbeats 2000000 in
set_option maxRecDepth 100000 in
theorem rmark_walk (w : World) (now : Int) (p : Option Addr) (n cap : Nat) (z : Nat → Int) (hin : InRow w p n z) (hn : n ≤ 140737488351232 / 8) :
    Calls Tryd.prog 15 #[.int .i64 now, .slice p n cap] w fun e w' => e = .returned (.int .i64 (leastF now z n)) ∧ w' = w := by
  have HIN := Lib.hid hin
  clear hin
  go_enter Tryd.func15, Tryd.ntmps15
  go_wp2_with fail
  go_loopg [5, 6] n (fun k lv iv wr => ∃ i : Nat, i ≤ n ∧ k = n - i ∧ iv = .int .i64 i ∧ lv = .int .i64 (leastF now z i) ∧ wr = w)
  case atStart => exact ⟨0, Nat.zero_le _, rfl, rfl, rfl, rfl⟩
  case round =>
    obtain ⟨i, hi, hk, rfl, rfl, rfl⟩ := hrel
    have HKK := Lib.hid hk
    clear hk
    by_cases hlt : i < n
    · have d1 : decide ((i : Int) < (n : Int)) = true := by simp; omega
      have d1' : decide (i < n) = true := by simp; omega
      obtain ⟨b, off, rfl, _, hc⟩ := HIN.out.2 (by omega)
      have c0 := hc i hlt
      clear hc
      have hS : leastF now z (i + 1) = if z i < leastF now z i then z i else leastF now z i := rfl
      have HS := Lib.hid hS
      clear hS
      go_wp2_with fail
      all_goals (
        go_roundg (n - (i + 1))
        case measure => rw [HKK.out]; omega
        case rel => exact ⟨i + 1, by omega, rfl, by go_num, by rw [HS.out]; split <;> first | rfl | omega, rfl⟩)
    · have d1 : decide ((i : Int) < (n : Int)) = false := by simp; omega
      have d1' : decide (i < n) = false := by simp; omega
      obtain rfl : i = n := by omega
      go_wp2_with fail
      go_ret
      exact ⟨rfl, rfl⟩
/-- The numbers of the slice that Watermark makes: the first, then those that came in. -/
theorem least_list (now : Int) (z y : Nat → Int) (n : Nat) (h0 : y 0 = now) (hy : ∀ i, i < n → y (i + 1) = z i) (k : Nat) (hk : k ≤ n) : leastF (y 0) (fun i => y (i + 1)) k = leastF now z k := by
  induction k with
  | zero => exact h0
  | succ k ih =>
    show (if y (k + 1) < leastF _ _ k then y (k + 1) else leastF _ _ k) = if z k < leastF now z k then z k else leastF now z k
    rw [ih (by omega), hy k (by omega)]

set_option maxHeartbeats 2000000 in
set_option maxRecDepth 100000 in
theorem min_walk (w : World) (v : Value) (n : Nat) (y : Nat → Int) (hr : RowAt w v (n + 1) (fun k => .int .i64 (y k))) (hl9 : n ≤ 100000000000000) :
    Calls Tryd.prog 33 #[v] w fun e w' => e = .returned (.int .i64 (leastF (y 0) (fun i => y (i + 1)) n)) ∧ w' = w := by
  obtain ⟨p, cap, rfl, hc⟩ := hr
  obtain ⟨b, off, rfl, _, hc1⟩ := hc (by omega)
  have c0 := hc1 0 (by omega)
  have HC := Lib.hid hc1
  have d1 : decide ((n : Int) + 1 < 1) = false := by simp; omega
  clear hc hc1
  rw [Nat.add_zero] at c0
  have HY := Lib.hid (show leastF (y 0) (fun i => y (i + 1)) 0 = y 0 from rfl)
  have HYS := Lib.hid (fun i => show leastF (y 0) (fun i => y (i + 1)) (i + 1) = if y (i + 1) < leastF (y 0) (fun i => y (i + 1)) i then y (i + 1) else leastF (y 0) (fun i => y (i + 1)) i from rfl)
  generalize leastF (y 0) (fun i => y (i + 1)) = F at *
  go_enter Tryd.func33, Tryd.ntmps33
  go_wp2_with fail
  go_loopg [3, 4] n (fun k lv iv wr => ∃ i : Nat, i ≤ n ∧ k = n - i ∧ iv = .int .i64 ((i : Int) + 1) ∧ lv = .int .i64 (F i) ∧ wr = w)
  case atStart => exact ⟨0, Nat.zero_le _, rfl, rfl, by rw [HY.out], rfl⟩
  case round =>
    obtain ⟨i, hi, hk, rfl, rfl, rfl⟩ := hrel
    have HKK := Lib.hid hk
    clear hk
    by_cases hlt : i < n
    · have d2 : decide ((i : Int) + 1 < (n : Int) + 1) = true := by simp; omega
      have ci := HC.out (i + 1) (by omega)
      have hb : 0 ≤ (i : Int) + 1 ∧ (i : Int) + 1 < (n : Int) + 1 := by omega
      have hp : ((i : Int) + 1).toNat = i + 1 := by omega
      go_wp2_with fail
      all_goals (
        go_roundg (n - (i + 1))
        case measure => rw [HKK.out]; omega
        case rel => exact ⟨i + 1, by omega, rfl, by go_num, by rw [HYS.out]; split <;> first | rfl | omega, rfl⟩)
    · have d2 : decide ((i : Int) + 1 < (n : Int) + 1) = false := by simp; omega
      obtain rfl : i = n := by omega
      go_wp2_with fail
      go_ret
      exact ⟨rfl, rfl⟩

theorem t64_row (w : World) (now : Int) (g : Nat) (hg : g = w.heap.size) : (w.alloc (.cells #[.int .i64 now] 2)).ownsRow 0 2 1 (.slice (some ⟨g, 0, none⟩) 1 1) 1 [.int .i64 now] := by
  subst hg
  exact ⟨rfl, .inr ⟨w.heap.size, 1, #[.int .i64 now], rfl, Nat.zero_le _, heap_alloc_new w _, Nat.le_refl _, by decide, rfl, rfl⟩⟩

set_option maxHeartbeats 4000000 in
set_option maxRecDepth 100000 in
theorem mark_walk (w : World) (now : Int) (p : Option Addr) (n cap : Nat) (z : Nat → Int) (hin : InRow w p n z) (hn : n ≤ 140737488351232 / 8) :
    Calls Tryd.prog 13 #[.int .i64 now, .slice p n cap] w fun e w' => e = .returned (.int .i64 (leastF now z n)) ∧ Kept [] w w' := by
  obtain ⟨i0, hi0, hz0, hz1, hz2⟩ := info_parts info_t64
  have HROW := Lib.hid (t64_row w now w.heap.size rfl)
  by_cases hpos : 0 < n
  · obtain ⟨b, off, rfl, hb, hcell⟩ := hin.2 hpos
    have HC := Lib.hid (nats_cells (w := w.alloc (.cells #[.int .i64 now] 2)) (b := b) (off := off) (m := n) (z := z) (fun i hi => ((Kept.refl [] w).alloc _).cell (hcell i hi) (by simp)))
    clear hin hcell
    go_enter Tryd.func13, Tryd.ntmps13
    go_wp2_with (at_builtin; refine wpList_append_new rfl (.tmp 6) (.tmp 7) 30 rfl 2 i0 (.int .i64 0) 1 8 Tryd.underlying30 hi0 hz0 hz1 hz2 rfl (by decide) _ _ _ rfl HROW.out ⟨b, off, none⟩ n cap (((List.range n).map z).map (Value.int .i64)) rfl (by simp) HC.out (by intro u hu; simp at hu; obtain ⟨x, _, rfl⟩ := hu; rfl) (by simp only [maxLen]; omega) (by omega) ?_)
    intro v' w5 happ
    have hrow : w5.ownsRow 0 2 1 v' (1 + n) ((now :: (List.range n).map z).map (Value.int .i64)) := by simpa using happ.row
    have hk5 : Kept [] w w5 := by
      have h1 := ((Kept.refl [w.heap.size] w).alloc (.cells #[.int .i64 now] 2)).grown happ.grown (fun k _ e => by simp [Value.ownBlock] at e; simp [e])
      exact h1.mono (fun k hk hm => by simp at hm; omega)
    have hrl : RowAt w5 v' (n + 1) (fun k => .int .i64 ((now :: (List.range n).map z).getD k 0)) := by
      rw [Nat.add_comm]
      refine rowAt_of hrow _ fun i hi => ?_
      rw [List.getElem?_map, List.getD_eq_getElem?_getD, List.getElem?_eq_getElem (by simp; omega)]; rfl
    have hm := min_walk w5 v' n (fun k => (now :: (List.range n).map z).getD k 0) hrl (by omega)
    rw [least_list now z (fun k => (now :: (List.range n).map z).getD k 0) n rfl (fun i hi => by
      show (now :: (List.range n).map z).getD (i + 1) 0 = z i
      rw [List.getD_eq_getElem?_getD, List.getElem?_cons_succ, List.getElem?_map, List.getElem?_range hi]; rfl) n (Nat.le_refl _)] at hm
    have HM := Lib.hid hm
    have HK := Lib.hid hk5
    clear happ hrow hk5 hrl hm
    go_wp2_with fail
    refine HM.out.mono ?_
    rintro e w6 ⟨rfl, rfl⟩
    go_wp2_with fail
    go_ret
    exact ⟨rfl, HK.out⟩
  · obtain rfl : n = 0 := by omega
    have hrl : RowAt (w.alloc (.cells #[.int .i64 now] 2)) (.slice (some ⟨w.heap.size, 0, none⟩) 1 1) (0 + 1) (fun _ => .int .i64 now) := rowAt_of HROW.out _ fun i hi => match i, hi with | 0, _ => rfl
    have HM := Lib.hid (min_walk (w.alloc (.cells #[.int .i64 now] 2)) _ 0 (fun _ => now) hrl (by omega))
    clear hin hrl
    have happ0 : ∀ (q : Option Addr) (W : World), (Builtin.append_ #[30, 30] 30 #[.slice (some ⟨w.heap.size, 0, none⟩) 1 1, .slice q 0 cap]).run Tryd.prog W = .ok (.slice (some ⟨w.heap.size, 0, none⟩) 1 1) W := fun q W => by cases q <;> kernel_rfl
    go_enter Tryd.func13, Tryd.ntmps13
    go_wp2_with (at_builtin; refine wpList_append_zero rfl (.tmp 6) (.tmp 7) 30 rfl _ _ _ rfl rfl (happ0 _ _) ?_)
    go_wp2_with fail
    refine HM.out.mono ?_
    rintro e w6 ⟨rfl, rfl⟩
    go_wp2_with fail
    go_ret
    exact ⟨rfl, (Kept.refl [] w).alloc _⟩
end Go.Proofs.YtbodobdllchmgaaDoor
namespace Go.Proofs.YtbodobdllchmgaaDoor
open Go Go.RowKit
set_option linter.unusedVariables false

/-- Is a word a timestamp that is not above a time? -/
def pastF (w mark : Int) : Bool := decide (w < 1099511627776) && decide (w ≤ mark)

set_option maxHeartbeats 1000000 in
set_option maxRecDepth 100000 in
theorem past_walk (W : World) (w mark : Int) (h0 : 0 ≤ w) (h1 : w < 18446744073709551616) :
    Calls Tryd.prog 34 #[.int .u64 w, .int .i64 mark] W fun e W' => e = .returned (.bool (pastF w mark)) ∧ W' = W := by
  have HP := Lib.hid (parts_walk W w h0 h1)
  unfold pastF
  by_cases c1 : w < 1099511627776
  · have e1 : wTime w = w := by unfold wTime; rw [if_pos (by omega)]
    have e2 : wOwner w = 0 := by unfold wOwner; rw [if_neg (by omega)]
    have e3 : wOk w = true := by unfold wOk; simp; omega
    rw [e1, e2, e3] at HP
    have d1 : decide (w < 1099511627776) = true := by simpa using c1
    have f1 : decide (w = 1099511627776) = false := by simp; omega
    have f2 : (w == 1099511627776) = false := by simp; omega
    have f3 : (w != 1099511627776) = true := by simp; omega
    rw [d1]
    go_enter Tryd.func34, Tryd.ntmps34
    go_wp2_with fail
    refine HP.out.mono ?_
    rintro e W' ⟨rfl, rfl⟩
    go_wp2_with fail
    go_ret
    exact ⟨rfl, rfl⟩
  · have d1 : decide (w < 1099511627776) = false := by simpa using c1
    rw [d1]
    by_cases c2 : w = 1099511627776
    · subst c2
      have e2 : wOwner 1099511627776 = 0 := by decide
      have e3 : wOk 1099511627776 = true := by decide
      rw [e2, e3] at HP
      go_enter Tryd.func34, Tryd.ntmps34
      go_wp2_with fail
      refine HP.out.mono ?_
      rintro e W' ⟨rfl, rfl⟩
      go_wp2_with fail
      go_ret
      exact ⟨rfl, rfl⟩
    · by_cases c3 : wOk w = true
      · have e2 : wOwner w ≠ 0 := by
          unfold wOk at c3; simp at c3
          unfold wOwner; rw [if_pos (by omega)]; omega
        rw [c3] at HP
        have f1 : decide (wOwner w = 0) = false := by simpa using e2
        have f2 : (wOwner w == 0) = false := by simpa using e2
        go_enter Tryd.func34, Tryd.ntmps34
        go_wp2_with fail
        refine HP.out.mono ?_
        rintro e W' ⟨rfl, rfl⟩
        go_wp2_with fail
        go_ret
        exact ⟨rfl, rfl⟩
      · have e3 : wOk w = false := by simpa using c3
        rw [e3] at HP
        go_enter Tryd.func34, Tryd.ntmps34
        go_wp2_with fail
        refine HP.out.mono ?_
        rintro e W' ⟨rfl, rfl⟩
        go_wp2_with fail
        go_ret
        exact ⟨rfl, rfl⟩

set_option maxHeartbeats 1000000 in
set_option maxRecDepth 100000 in
theorem rpast_walk (W : World) (w mark : Int) (h0 : 0 ≤ w) (h1 : w < 18446744073709551616) :
    Calls Tryd.prog 35 #[.int .u64 w, .int .i64 mark] W fun e W' => e = .returned (.bool (pastF w mark)) ∧ W' = W := by
  have HP := Lib.hid (rparts_walk W w h0 h1)
  unfold pastF
  by_cases c1 : w < 1099511627776
  · have e1 : wTime w = w := by unfold wTime; rw [if_pos (by omega)]
    have e2 : wOwner w = 0 := by unfold wOwner; rw [if_neg (by omega)]
    have e3 : wOk w = true := by unfold wOk; simp; omega
    rw [e1, e2, e3] at HP
    have d1 : decide (w < 1099511627776) = true := by simpa using c1
    have f1 : decide (w = 1099511627776) = false := by simp; omega
    have f2 : (w == 1099511627776) = false := by simp; omega
    have f3 : (w != 1099511627776) = true := by simp; omega
    rw [d1]
    go_enter Tryd.func35, Tryd.ntmps35
    go_wp2_with fail
    refine HP.out.mono ?_
    rintro e W' ⟨rfl, rfl⟩
    go_wp2_with fail
    go_ret
    exact ⟨rfl, rfl⟩
  · have d1 : decide (w < 1099511627776) = false := by simpa using c1
    rw [d1]
    by_cases c2 : w = 1099511627776
    · subst c2
      have e2 : wOwner 1099511627776 = 0 := by decide
      have e3 : wOk 1099511627776 = true := by decide
      rw [e2, e3] at HP
      go_enter Tryd.func35, Tryd.ntmps35
      go_wp2_with fail
      refine HP.out.mono ?_
      rintro e W' ⟨rfl, rfl⟩
      go_wp2_with fail
      go_ret
      exact ⟨rfl, rfl⟩
    · by_cases c3 : wOk w = true
      · have e2 : wOwner w ≠ 0 := by
          unfold wOk at c3; simp at c3
          unfold wOwner; rw [if_pos (by omega)]; omega
        rw [c3] at HP
        have f1 : decide (wOwner w = 0) = false := by simpa using e2
        have f2 : (wOwner w == 0) = false := by simpa using e2
        go_enter Tryd.func35, Tryd.ntmps35
        go_wp2_with fail
        refine HP.out.mono ?_
        rintro e W' ⟨rfl, rfl⟩
        go_wp2_with fail
        go_ret
        exact ⟨rfl, rfl⟩
      · have e3 : wOk w = false := by simpa using c3
        rw [e3] at HP
        go_enter Tryd.func35, Tryd.ntmps35
        go_wp2_with fail
        refine HP.out.mono ?_
        rintro e W' ⟨rfl, rfl⟩
        go_wp2_with fail
        go_ret
        exact ⟨rfl, rfl⟩

/-- How many stay, from the i-th on, of so many more. -/
def keepF (b e : Nat → Int) (mark : Int) (i : Nat) : Nat → Nat
  | 0 => i
  | k + 1 => if pastF (b i) mark = true then (if pastF (e i) mark = true then i else i + 1) else keepF b e mark (i + 1) k

/-- A slice of words that came in. -/
structure WRow (w : World) (p : Option Addr) (n cap : Nat) (z : Nat → Int) : Prop where
  nil : p = none → n = 0 ∧ cap = 0
  le : n ≤ cap
  max : cap ≤ maxLen
  rng : ∀ i, i < n → 0 ≤ z i ∧ z i < 18446744073709551616
  cell : 0 < n → ∃ b off, p = some ⟨b, off, none⟩ ∧ b < w.heap.size ∧ ∀ i, i < n → w.cell? ⟨b, off + i, none⟩ = some (.int .u64 (z i))
theorem WRow.kept {w w' : World} {p : Option Addr} {n cap : Nat} {z : Nat → Int} (h : WRow w p n cap z) (k : Kept [] w w') : WRow w' p n cap z := by
  refine ⟨h.nil, h.le, h.max, h.rng, fun h0 => ?_⟩
  obtain ⟨b, off, e, hb, hc⟩ := h.cell h0
  exact ⟨b, off, e, Nat.lt_of_lt_of_le hb k.size, fun i hi => k.cell (hc i hi) (by simp)⟩

set_option maxHeartbeats 4000000 in
set_option maxRecDepth 100000 in
theorem keep_walk (w : World) (pb pe : Option Addr) (nb ne cb ce : Nat) (zb ze : Nat → Int) (mark : Int) (hb : WRow w pb nb cb zb) (he : WRow w pe ne ce ze) (N : Nat) (hN : N = if ne < nb then ne else nb) :
    Calls Tryd.prog 14 #[.slice pb nb cb, .slice pe ne ce, .int .i64 mark] w fun e w' => e = .returned (.int .i64 (keepF zb ze mark 0 N : Nat)) ∧ w' = w := by
  have HB := Lib.hid hb
  have HE := Lib.hid he
  have h9 : maxLen ≤ 9223372036854775807 := by decide
  have m1 : nb ≤ cb := hb.le
  have m2 : cb ≤ 9223372036854775807 := Nat.le_trans hb.max h9
  have m3 : ne ≤ ce := he.le
  have m4 : ce ≤ 9223372036854775807 := Nat.le_trans he.max h9
  have hle : N ≤ nb ∧ N ≤ ne := by rw [hN]; split <;> omega
  have hsp : (decide ((ne : Int) < (nb : Int)) = true ∧ ne < nb ∧ N = ne) ∨ (decide ((ne : Int) < (nb : Int)) = false ∧ ¬ ne < nb ∧ N = nb) := by
    by_cases h1 : ne < nb
    · left; rw [if_pos h1] at hN; simp; exact ⟨h1, hN⟩
    · right; rw [if_neg h1] at hN; simp; exact ⟨by omega, hN⟩
  obtain ⟨K, hK⟩ : ∃ K, K = keepF zb ze mark 0 N := ⟨_, rfl⟩
  rw [← hK]
  have HK := Lib.hid hK
  clear hb he hN hK h9
  rcases hsp with ⟨x1, x2, x3⟩ | ⟨x1, x2, x3⟩
  all_goals (
    subst x3
    go_enter Tryd.func14, Tryd.ntmps14
    go_wp2_with fail
    go_loopg [19] N (fun k iv wr => ∃ i : Nat, i ≤ N ∧ k = N - i ∧ iv = .int .i64 i ∧ K = keepF zb ze mark i (N - i) ∧ wr = w)
    case atStart => exact ⟨0, Nat.zero_le _, rfl, rfl, HK.out, rfl⟩
    case round =>
      obtain ⟨i, hi, hk, rfl, hk0, rfl⟩ := hrel
      have HKK := Lib.hid hk
      have HK0 := Lib.hid hk0
      clear hk hk0
      by_cases hlt : i < N
      · have d1 : decide ((i : Int) < (N : Int)) = true := by simp; omega
        have d1' : decide (i < N) = true := by simp; omega
        obtain ⟨b1, o1, rfl, _, hc1⟩ := HB.out.cell (by omega)
        obtain ⟨b2, o2, rfl, _, hc2⟩ := HE.out.cell (by omega)
        have c1 := hc1 i (by omega)
        have c2 := hc2 i (by omega)
        have q1 : 0 ≤ (i : Int) ∧ (i : Int) < (N : Int) := by omega
        have HA := Lib.hid (past_walk wr (zb i) mark (HB.out.rng i (by omega)).1 (HB.out.rng i (by omega)).2)
        have HE2 := Lib.hid (past_walk wr (ze i) mark (HE.out.rng i (by omega)).1 (HE.out.rng i (by omega)).2)
        have HS := Lib.hid (show keepF zb ze mark i (N - i) = if pastF (zb i) mark = true then (if pastF (ze i) mark = true then i else i + 1) else keepF zb ze mark (i + 1) (N - (i + 1)) by
          rw [show N - i = N - (i + 1) + 1 by omega]; rfl)
        clear hc1 hc2
        cases hpa : pastF (zb i) mark
        · rw [hpa] at HA HS
          cases hpe : pastF (ze i) mark
          all_goals (
            rw [hpe] at HE2 HS
            go_wp2_with fail
            refine HA.out.mono ?_
            rintro e W' ⟨rfl, rfl⟩
            go_wp2_with fail
            go_roundg (N - (i + 1))
            case measure => rw [HKK.out]; omega
            case rel => exact ⟨i + 1, by omega, rfl, by go_num, by rw [HK0.out, HS.out]; simp, rfl⟩)
        · rw [hpa] at HA HS
          cases hpe : pastF (ze i) mark
          · rw [hpe] at HE2 HS
            have HK1 := Lib.hid (show K = i + 1 by rw [HK0.out, HS.out]; simp)
            go_wp2_with fail
            refine HA.out.mono ?_
            rintro e W' ⟨rfl, rfl⟩
            go_wp2_with fail
            refine HE2.out.mono ?_
            rintro e W' ⟨rfl, rfl⟩
            go_wp2_with fail
            go_ret
            exact ⟨by rw [HK1.out]; simp, rfl⟩
          · rw [hpe] at HE2 HS
            have HK1 := Lib.hid (show K = i by rw [HK0.out, HS.out]; simp)
            go_wp2_with fail
            refine HA.out.mono ?_
            rintro e W' ⟨rfl, rfl⟩
            go_wp2_with fail
            refine HE2.out.mono ?_
            rintro e W' ⟨rfl, rfl⟩
            go_wp2_with fail
            go_ret
            exact ⟨by rw [HK1.out]; rfl, rfl⟩
      · have d1 : decide ((i : Int) < (N : Int)) = false := by simp; omega
        have d1' : decide (i < N) = false := by simp; omega
        obtain rfl : i = N := by omega
        have HK1 := Lib.hid (show K = i by rw [HK0.out, Nat.sub_self]; rfl)
        go_wp2_with fail
        go_ret
        exact ⟨by rw [HK1.out]; rfl, rfl⟩)

set_option maxHeartbeats 4000000 in
set_option maxRecDepth 100000 in
theorem rkeep_walk (w : World) (pb pe : Option Addr) (nb ne cb ce : Nat) (zb ze : Nat → Int) (mark : Int) (hb : WRow w pb nb cb zb) (he : WRow w pe ne ce ze) (N : Nat) (hN : N = if ne < nb then ne else nb) :
    Calls Tryd.prog 16 #[.slice pb nb cb, .slice pe ne ce, .int .i64 mark] w fun e w' => e = .returned (.int .i64 (keepF zb ze mark 0 N : Nat)) ∧ w' = w := by
  have HB := Lib.hid hb
  have HE := Lib.hid he
  have h9 : maxLen ≤ 9223372036854775807 := by decide
  have m1 : nb ≤ cb := hb.le
  have m2 : cb ≤ 9223372036854775807 := Nat.le_trans hb.max h9
  have m3 : ne ≤ ce := he.le
  have m4 : ce ≤ 9223372036854775807 := Nat.le_trans he.max h9
  have hle : N ≤ nb ∧ N ≤ ne := by rw [hN]; split <;> omega
  have hsp : (decide ((ne : Int) < (nb : Int)) = true ∧ ne < nb ∧ N = ne) ∨ (decide ((ne : Int) < (nb : Int)) = false ∧ ¬ ne < nb ∧ N = nb) := by
    by_cases h1 : ne < nb
    · left; rw [if_pos h1] at hN; simp; exact ⟨h1, hN⟩
    · right; rw [if_neg h1] at hN; simp; exact ⟨by omega, hN⟩
  obtain ⟨K, hK⟩ : ∃ K, K = keepF zb ze mark 0 N := ⟨_, rfl⟩
  rw [← hK]
  have HK := Lib.hid hK
  clear hb he hN hK h9
  rcases hsp with ⟨x1, x2, x3⟩ | ⟨x1, x2, x3⟩
  all_goals (
    subst x3
    go_enter Tryd.func16, Tryd.ntmps16
    go_wp2_with fail
    go_loopg [8] N (fun k iv wr => ∃ i : Nat, i ≤ N ∧ k = N - i ∧ iv = .int .i64 i ∧ K = keepF zb ze mark i (N - i) ∧ wr = w)
    case atStart => exact ⟨0, Nat.zero_le _, rfl, rfl, HK.out, rfl⟩
    case round =>
      obtain ⟨i, hi, hk, rfl, hk0, rfl⟩ := hrel
      have HKK := Lib.hid hk
      have HK0 := Lib.hid hk0
      clear hk hk0
      by_cases hlt : i < N
      · have d1 : decide ((i : Int) < (N : Int)) = true := by simp; omega
        have d1' : decide (i < N) = true := by simp; omega
        obtain ⟨b1, o1, rfl, _, hc1⟩ := HB.out.cell (by omega)
        obtain ⟨b2, o2, rfl, _, hc2⟩ := HE.out.cell (by omega)
        have c1 := hc1 i (by omega)
        have c2 := hc2 i (by omega)
        have q1 : 0 ≤ (i : Int) ∧ (i : Int) < (N : Int) := by omega
        have HA := Lib.hid (rpast_walk wr (zb i) mark (HB.out.rng i (by omega)).1 (HB.out.rng i (by omega)).2)
        have HE2 := Lib.hid (rpast_walk wr (ze i) mark (HE.out.rng i (by omega)).1 (HE.out.rng i (by omega)).2)
        have HS := Lib.hid (show keepF zb ze mark i (N - i) = if pastF (zb i) mark = true then (if pastF (ze i) mark = true then i else i + 1) else keepF zb ze mark (i + 1) (N - (i + 1)) by
          rw [show N - i = N - (i + 1) + 1 by omega]; rfl)
        clear hc1 hc2
        cases hpa : pastF (zb i) mark
        · rw [hpa] at HA HS
          cases hpe : pastF (ze i) mark
          all_goals (
            rw [hpe] at HE2 HS
            go_wp2_with fail
            refine HA.out.mono ?_
            rintro e W' ⟨rfl, rfl⟩
            go_wp2_with fail
            refine HE2.out.mono ?_
            rintro e W' ⟨rfl, rfl⟩
            go_wp2_with fail
            go_roundg (N - (i + 1))
            case measure => rw [HKK.out]; omega
            case rel => exact ⟨i + 1, by omega, rfl, by go_num, by rw [HK0.out, HS.out]; simp, rfl⟩)
        · rw [hpa] at HA HS
          cases hpe : pastF (ze i) mark
          · rw [hpe] at HE2 HS
            have HK1 := Lib.hid (show K = i + 1 by rw [HK0.out, HS.out]; simp)
            go_wp2_with fail
            refine HA.out.mono ?_
            rintro e W' ⟨rfl, rfl⟩
            go_wp2_with fail
            refine HE2.out.mono ?_
            rintro e W' ⟨rfl, rfl⟩
            go_wp2_with fail
            go_ret
            exact ⟨by rw [HK1.out]; simp, rfl⟩
          · rw [hpe] at HE2 HS
            have HK1 := Lib.hid (show K = i by rw [HK0.out, HS.out]; simp)
            go_wp2_with fail
            refine HA.out.mono ?_
            rintro e W' ⟨rfl, rfl⟩
            go_wp2_with fail
            refine HE2.out.mono ?_
            rintro e W' ⟨rfl, rfl⟩
            go_wp2_with fail
            go_ret
            exact ⟨by rw [HK1.out]; rfl, rfl⟩
      · have d1 : decide ((i : Int) < (N : Int)) = false := by simp; omega
        have d1' : decide (i < N) = false := by simp; omega
        obtain rfl : i = N := by omega
        have HK1 := Lib.hid (show K = i by rw [HK0.out, Nat.sub_self]; rfl)
        go_wp2_with fail
        go_ret
        exact ⟨by rw [HK1.out]; rfl, rfl⟩)

end Go.Proofs.YtbodobdllchmgaaDoor
namespace Go.Proofs.YtbodobdllchmgaaDoor
open Go Go.RowKit
set_option linter.unusedVariables false

/-- The first of a chain, 0 where there is none. -/
def hd : List Nat → Int
  | [] => 0
  | v :: _ => v

/-- Versions, each naming the next. -/
def Linked (A : ASt) : List Nat → Prop
  | [] => True
  | v :: l => 1 ≤ v ∧ A.ver (v - 1) = true ∧ (A.V (v - 1)).next = hd l ∧ Linked A l

/-- Node i's chain is ch i; no version is in two chains. -/
structure Chs (A : ASt) (ch : Nat → List Nat) : Prop where
  head : ∀ i, i < A.nN → (A.N i).1 = hd (ch i)
  link : ∀ i, i < A.nN → Linked A (ch i)
  apart : ∀ i j, i < A.nN → j < A.nN → i ≠ j → ∀ v ∈ ch i, v ∉ ch j
  down : ∀ i, A.ver i = true → (A.V i).next ≤ i

theorem hd_nonneg (l : List Nat) : 0 ≤ hd l := by cases l <;> simp [hd]
theorem hd_append (pre : List Nat) (v : Nat) (a b : List Nat) : hd (pre ++ v :: a) = hd (pre ++ v :: b) := by cases pre <;> rfl

theorem Linked.mem {A : ASt} {l : List Nat} (h : Linked A l) : ∀ v ∈ l, 1 ≤ v ∧ A.ver (v - 1) = true := by
  induction l with
  | nil => simp
  | cons v l ih =>
    obtain ⟨h1, h2, _, h4⟩ := h
    intro u hu
    rcases List.mem_cons.1 hu with rfl | hu
    · exact ⟨h1, h2⟩
    · exact ih h4 u hu

theorem Linked.falls {A : ASt} (hd' : ∀ i, A.ver i = true → (A.V i).next ≤ i) {l : List Nat} (h : Linked A l) : l.Pairwise (· > ·) := by
  induction l with
  | nil => exact List.Pairwise.nil
  | cons v l ih =>
    obtain ⟨h1, h2, h3, h4⟩ := h
    have ihl := ih h4
    refine List.pairwise_cons.2 ⟨?_, ihl⟩
    have hle := hd' _ h2
    rw [h3] at hle
    intro u hu
    cases l with
    | nil => simp at hu
    | cons x l =>
      simp only [hd] at hle
      rcases List.mem_cons.1 hu with rfl | hu
      · show v > u; omega
      · have := (List.pairwise_cons.1 ihl).1 u hu
        show v > u; omega

theorem Linked.chain {A : ASt} (hd' : ∀ i, A.ver i = true → (A.V i).next ≤ i) {l : List Nat} (h : Linked A l) (f : Nat) (hf : (hd l).toNat ≤ f) : chainF A f (hd l) = l := by
  induction l generalizing f with
  | nil => exact chainF_stop (by simp [hd])
  | cons v l ih =>
    obtain ⟨h1, h2, h3, h4⟩ := h
    obtain ⟨i, rfl⟩ : ∃ i, v = i + 1 := ⟨v - 1, by omega⟩
    simp only [Nat.add_sub_cancel] at h2 h3
    obtain ⟨f', rfl⟩ : ∃ f', f = f' + 1 := ⟨f - 1, by simp [hd] at hf; omega⟩
    have hle := hd' _ h2
    rw [h3] at hle
    have e : hd ((i + 1) :: l) = (i : Int) + 1 := by simp [hd]
    rw [e, chainF_go h2, h3, ih h4 f' (by simp [hd] at hf; omega)]

theorem Linked.keep {A A' : ASt} {l : List Nat} (h : Linked A l) (hv : ∀ u ∈ l, A'.ver (u - 1) = A.ver (u - 1) ∧ (A'.V (u - 1)).next = (A.V (u - 1)).next) : Linked A' l := by
  induction l with
  | nil => trivial
  | cons v l ih =>
    obtain ⟨h1, h2, h3, h4⟩ := h
    obtain ⟨e1, e2⟩ := hv v (by simp)
    exact ⟨h1, by rw [e1]; exact h2, by rw [e2]; exact h3, ih h4 fun u hu => hv u (by simp [hu])⟩

theorem Linked.tail {A : ASt} (pre : List Nat) {l : List Nat} (h : Linked A (pre ++ l)) : Linked A l := by
  induction pre with
  | nil => exact h
  | cons u pre ih => exact ih h.2.2.2

/-- A version's next goes, all behind it are no more. -/
def ASt.cutV (A : ASt) (v : Nat) (post : List Nat) : ASt := (A.set (.next (v - 1)) 0).goneAll post

theorem goneAll_V (A : ASt) (l : List Nat) (h : ∀ v ∈ l, 1 ≤ v) (j : Nat) : (A.goneAll l).V j = { A.V j with gone := (A.V j).gone || decide (j + 1 ∈ l) } := by
  unfold ASt.goneAll
  induction l generalizing A with
  | nil => simp
  | cons v l ih =>
    rw [List.foldl_cons, ih _ (fun u hu => h u (by simp [hu]))]
    have h1 := h v (by simp)
    by_cases e : j = v - 1
    · have e' : j + 1 = v := by omega
      simp [ASt.goneV, e, show v - 1 + 1 = v by omega]
    · have e' : ¬ j + 1 = v := by omega
      simp [ASt.goneV, e, e']

theorem goneAll_N (A : ASt) (l : List Nat) : (A.goneAll l).N = A.N ∧ (A.goneAll l).nN = A.nN ∧ (A.goneAll l).nV = A.nV := by
  unfold ASt.goneAll
  induction l generalizing A with
  | nil => exact ⟨rfl, rfl, rfl⟩
  | cons v l ih => exact ih (A.goneV (v - 1))

theorem cutV_V (A : ASt) {v : Nat} {post : List Nat} (h : ∀ u ∈ post, 1 ≤ u) (j : Nat) :
    (A.cutV v post).V j = { A.V j with next := if j = v - 1 then 0 else (A.V j).next, gone := (A.V j).gone || decide (j + 1 ∈ post) } := by
  unfold ASt.cutV
  rw [goneAll_V _ _ h]
  by_cases e : j = v - 1
  · subst e; simp [ASt.set]
  · simp [ASt.set, e]
theorem cutV_N (A : ASt) (v : Nat) (post : List Nat) : (A.cutV v post).N = A.N ∧ (A.cutV v post).nN = A.nN ∧ (A.cutV v post).nV = A.nV := by
  unfold ASt.cutV
  obtain ⟨h1, h2, h3⟩ := goneAll_N (A.set (.next (v - 1)) 0) post
  exact ⟨h1, h2, h3⟩
theorem cutV_ver (A : ASt) {v : Nat} {post : List Nat} (h : ∀ u ∈ post, 1 ≤ u) (j : Nat) : (A.cutV v post).ver j = (A.ver j && decide (j + 1 ∉ post)) := by
  unfold ASt.ver
  rw [cutV_V A h, (cutV_N A v post).2.2]
  by_cases e : j + 1 ∈ post <;> simp [e]

def updL (ch : Nat → List Nat) (i : Nat) (l : List Nat) : Nat → List Nat := fun j => if j = i then l else ch j

theorem Linked.cut {A : ASt} {v : Nat} {post : List Nat} (hp : ∀ u ∈ post, 1 ≤ u) (hv : v ∉ post) : ∀ pre : List Nat, Linked A (pre ++ v :: post) → (∀ u ∈ pre, u ≠ v ∧ u ∉ post) → Linked (A.cutV v post) (pre ++ [v])
  | [], h, _ => by
    obtain ⟨h1, h2, _, _⟩ := h
    refine ⟨h1, ?_, ?_, trivial⟩
    · rw [cutV_ver A hp, h2, show v - 1 + 1 = v by omega]; simpa using hv
    · rw [cutV_V A hp]; simp [hd]
  | u :: pre, h, hu => by
    obtain ⟨h1, h2, h3, h4⟩ := h
    obtain ⟨n1, n2⟩ := hu u (by simp)
    have hu1 : 1 ≤ v := (Linked.mem h4 v (by simp)).1
    refine ⟨h1, ?_, ?_, Linked.cut hp hv pre h4 fun x hx => hu x (by simp [hx])⟩
    · rw [cutV_ver A hp, h2, show u - 1 + 1 = u by omega]; simpa using n2
    · rw [cutV_V A hp]
      simp only
      rw [if_neg (by omega), h3]
      exact hd_append pre v post []

theorem Chs.cut {A : ASt} {ch : Nat → List Nat} (h : Chs A ch) {i : Nat} (hi : i < A.nN) {pre post : List Nat} {v : Nat} (e : ch i = pre ++ v :: post) : Chs (A.cutV v post) (updL ch i (pre ++ [v])) := by
  have hl := h.link i hi
  rw [e] at hl
  have hmem := hl.mem
  have hfall := hl.falls h.down
  have hp : ∀ u ∈ post, 1 ≤ u := fun u hu => (hmem u (by simp [hu])).1
  obtain ⟨_, hf2, hf3⟩ := List.pairwise_append.1 hfall
  have hvp : v ∉ post := fun hm => by
    have := (List.pairwise_cons.1 hf2).1 v hm
    exact absurd this (Nat.lt_irrefl v)
  have hpre : ∀ u ∈ pre, u ≠ v ∧ u ∉ post := fun u hu => ⟨fun e => by have := hf3 u hu v (by simp); omega, fun hm => by have := hf3 u hu u (by simp [hm]); omega⟩
  obtain ⟨cN, cn, cV⟩ := cutV_N A v post
  have hv1 := (hmem v (by simp)).1
  refine ⟨fun j hj => ?_, fun j hj => ?_, fun j k hj hk hne u hu hu' => ?_, fun j hj => ?_⟩
  · rw [cn] at hj
    rw [cN, h.head j hj]
    unfold updL
    by_cases ej : j = i
    · rw [if_pos ej, ej, e]; exact hd_append pre v post []
    · rw [if_neg ej]
  · rw [cn] at hj
    unfold updL
    by_cases ej : j = i
    · rw [if_pos ej]; exact Linked.cut hp hvp pre hl hpre
    · rw [if_neg ej]
      refine (h.link j hj).keep fun u hu => ?_
      have hnot := h.apart j i hj hi ej u hu
      rw [e] at hnot
      have hu1 := ((h.link j hj).mem u hu).1
      simp only [List.mem_append, List.mem_cons, not_or] at hnot
      rw [cutV_ver A hp, cutV_V A hp, show u - 1 + 1 = u by omega]
      refine ⟨by simp [hnot.2.2], ?_⟩
      simp only
      rw [if_neg (by omega)]
  · rw [cn] at hj hk
    have sub : ∀ x, ∀ y ∈ updL ch i (pre ++ [v]) x, y ∈ ch x := by
      intro x y hy
      unfold updL at hy
      by_cases ex : x = i
      · rw [if_pos ex] at hy; rw [ex, e]
        simp only [List.mem_append, List.mem_cons, List.not_mem_nil, or_false] at hy ⊢
        rcases hy with hy | hy
        · exact .inl hy
        · exact .inr (.inl hy)
      · rw [if_neg ex] at hy; exact hy
    exact h.apart j k hj hk hne u (sub j u hu) (sub k u hu')
  · rw [cutV_ver A hp] at hj
    have hj2 : A.ver j = true := by simp at hj; exact hj.1
    rw [cutV_V A hp]
    simp only
    split
    · omega
    · exact h.down j hj2

/-- A node's only version goes. -/
def ASt.dropV (A : ASt) (i v : Nat) (nx : Int) : ASt := (A.set (.head i) nx).goneV (v - 1)
theorem dropV_V (A : ASt) (i v : Nat) (nx : Int) (j : Nat) : (A.dropV i v nx).V j = { A.V j with gone := (A.V j).gone || decide (j = v - 1) } := by
  unfold ASt.dropV ASt.goneV
  by_cases e : j = v - 1
  · simp [e, ASt.set]
  · simp [e, ASt.set]
theorem dropV_ver (A : ASt) (i v : Nat) (nx : Int) (j : Nat) : (A.dropV i v nx).ver j = (A.ver j && decide (j ≠ v - 1)) := by
  unfold ASt.ver
  rw [dropV_V]
  show (decide (j < A.nV) && _) = _
  by_cases e : j = v - 1 <;> simp [e]

theorem Chs.drop {A : ASt} {ch : Nat → List Nat} (h : Chs A ch) {i : Nat} (hi : i < A.nN) {v : Nat} (e : ch i = [v]) : Chs (A.dropV i v 0) (updL ch i []) := by
  have hl := h.link i hi
  rw [e] at hl
  obtain ⟨h1, h2, h3, _⟩ := hl
  refine ⟨fun j hj => ?_, fun j hj => ?_, fun j k hj hk hne u hu hu' => ?_, fun j hj => ?_⟩
  · show ((if j = i then ((0 : Int), (A.N j).2) else A.N j)).1 = _
    unfold updL
    by_cases ej : j = i
    · rw [if_pos ej, if_pos ej]; rfl
    · rw [if_neg ej, if_neg ej]; exact h.head j hj
  · unfold updL
    by_cases ej : j = i
    · rw [if_pos ej]; trivial
    · rw [if_neg ej]
      refine (h.link j hj).keep fun u hu => ?_
      have hnot := h.apart j i hj hi ej u hu
      rw [e] at hnot
      have hu1 := ((h.link j hj).mem u hu).1
      simp only [List.mem_cons, List.not_mem_nil, or_false] at hnot
      rw [dropV_ver, dropV_V]
      have : u - 1 ≠ v - 1 := by omega
      simp [this]
  · have sub : ∀ x, ∀ y ∈ updL ch i [] x, y ∈ ch x := by
      intro x y hy
      unfold updL at hy
      by_cases ex : x = i
      · rw [if_pos ex] at hy; simp at hy
      · rw [if_neg ex] at hy; exact hy
    exact h.apart j k hj hk hne u (sub j u hu) (sub k u hu')
  · rw [dropV_ver] at hj
    have hj2 : A.ver j = true := by simp at hj; exact hj.1
    rw [dropV_V]
    exact h.down j hj2

/-- A version ahead of a node's chain. -/
theorem Chs.push {A : ASt} {ch : Nat → List Nat} (h : Chs A ch) {i : Nat} (hi : i < A.nN) {v : Nat} (h1 : 1 ≤ v) (hv : A.ver (v - 1) = true) (hn : (A.V (v - 1)).next = hd (ch i)) (ho : ∀ j, j < A.nN → v ∉ ch j) : Chs (A.set (.head i) v) (updL ch i (v :: ch i)) := by
  have hV : ∀ j, (A.set (.head i) v).V j = A.V j := fun j => rfl
  refine ⟨fun j hj => ?_, fun j hj => ?_, fun j k hj hk hne u hu hu' => ?_, fun j hj => ?_⟩
  · show ((if j = i then ((v : Int), (A.N j).2) else A.N j)).1 = _
    unfold updL
    by_cases ej : j = i
    · rw [if_pos ej, if_pos ej]; rfl
    · rw [if_neg ej, if_neg ej]; exact h.head j hj
  · have keep : ∀ l, Linked A l → Linked (A.set (.head i) v) l := fun l hl => hl.keep fun u _ => ⟨A.ver_set _ _ _, rfl⟩
    unfold updL
    by_cases ej : j = i
    · rw [if_pos ej]
      exact ⟨h1, by rw [A.ver_set]; exact hv, hn, keep _ (h.link i hi)⟩
    · rw [if_neg ej]
      exact keep _ (h.link j hj)
  · have hj' : j < A.nN := hj
    have hk' : k < A.nN := hk
    unfold updL at hu hu'
    by_cases ej : j = i
    · rw [if_pos ej] at hu
      rw [if_neg (by omega)] at hu'
      rcases List.mem_cons.1 hu with rfl | hu
      · exact ho k hk' hu'
      · exact h.apart i k hi hk' (by omega) u hu hu'
    · rw [if_neg ej] at hu
      by_cases ek : k = i
      · rw [if_pos ek] at hu'
        rcases List.mem_cons.1 hu' with rfl | hu'
        · exact ho j hj' hu
        · exact h.apart j i hj' hi ej u hu hu'
      · rw [if_neg ek] at hu'
        exact h.apart j k hj' hk' hne u hu hu'
  · rw [A.ver_set] at hj
    exact h.down j hj

/-- Another version, in no chain yet. -/
theorem Chs.more {A : ASt} {ch : Nat → List Nat} (h : Chs A ch) (st : Int) (val : ByteArray) (bg nx : Int) (hnx : nx ≤ A.nV) : Chs (A.addVer st val bg nx) ch := by
  have hold : ∀ j, A.ver j = true → (A.addVer st val bg nx).ver j = true ∧ (A.addVer st val bg nx).V j = A.V j := by
    intro j hj
    have hlt : j < A.nV := by unfold ASt.ver at hj; simp at hj; exact hj.1
    have e : (A.addVer st val bg nx).V j = A.V j := by show (if j = A.nV then _ else A.V j) = _; rw [if_neg (by omega)]
    refine ⟨?_, e⟩
    unfold ASt.ver at hj ⊢
    rw [e]
    simp only [Bool.and_eq_true, decide_eq_true_eq] at hj ⊢
    exact ⟨by show j < A.nV + 1; omega, hj.2⟩
  refine ⟨h.head, fun j hj => (h.link j hj).keep fun u hu => ?_, h.apart, fun j hj => ?_⟩
  · obtain ⟨_, hv⟩ := (h.link j hj).mem u hu
    obtain ⟨a, b⟩ := hold _ hv
    exact ⟨by rw [a, hv], by rw [b]⟩
  · by_cases e : j = A.nV
    · subst e
      show ((if A.nV = A.nV then (⟨val, bg, 1099511627776, nx, false⟩ : AVer) else A.V A.nV)).next ≤ _
      rw [if_pos rfl]; exact hnx
    · have e2 : (A.addVer st val bg nx).V j = A.V j := by show (if j = A.nV then _ else A.V j) = _; rw [if_neg e]
      have hj2 : A.ver j = true := by
        unfold ASt.ver at hj ⊢
        rw [e2] at hj
        simp only [Bool.and_eq_true, decide_eq_true_eq] at hj ⊢
        have : j < A.nV + 1 := hj.1
        exact ⟨by omega, hj.2⟩
      rw [e2]; exact h.down j hj2

/-- Another end, steps: the chains stay. -/
theorem Chs.setEnd {A : ASt} {ch : Nat → List Nat} (h : Chs A ch) (i : Nat) (q : Int) : Chs (A.set (.end_ i) q) ch := by
  have hn : ∀ j, ((A.set (.end_ i) q).V j).next = (A.V j).next := fun j => by
    show ((if j = i then { A.V j with end_ := q } else A.V j)).next = _
    split <;> rfl
  refine ⟨h.head, fun j hj => (h.link j hj).keep fun u hu => ⟨A.ver_set _ _ _, hn _⟩, h.apart, fun j hj => ?_⟩
  rw [A.ver_set] at hj
  rw [hn]; exact h.down j hj
theorem Linked.at {A : ASt} (st : Int) {l : List Nat} : Linked (A.at st) l ↔ Linked A l := by
  induction l with
  | nil => exact Iff.rfl
  | cons v l ih => exact and_congr Iff.rfl (and_congr Iff.rfl (and_congr Iff.rfl ih))
theorem Chs.at {A : ASt} {ch : Nat → List Nat} (h : Chs A ch) (st : Int) : Chs (A.at st) ch :=
  ⟨h.head, fun j hj => (Linked.at st).2 (h.link j hj), h.apart, h.down⟩

/-- A version's words. -/
def bgn (A : ASt) (v : Nat) : Int := (A.V (v - 1)).begin_
def enn (A : ASt) (v : Nat) : Int := (A.V (v - 1)).end_

/-- How many of a chain stay. -/
def stayL (A : ASt) (mark : Int) (l : List Nat) : Nat := keepF (fun k => bgn A (l.getD k 0)) (fun k => enn A (l.getD k 0)) mark 0 l.length

theorem keepF_le (b e : Nat → Int) (mark : Int) (i k : Nat) : keepF b e mark i k ≤ i + k := by
  induction k generalizing i with
  | zero => exact Nat.le_refl _
  | succ k ih =>
    unfold keepF
    split
    · split <;> omega
    · have := ih (i + 1); omega
theorem stayL_le (A : ASt) (mark : Int) (l : List Nat) : stayL A mark l ≤ l.length := by
  have := keepF_le (fun k => bgn A (l.getD k 0)) (fun k => enn A (l.getD k 0)) mark 0 l.length
  unfold stayL; omega
theorem keepF_congr {b e b' e' : Nat → Int} {mark : Int} {i k : Nat} (hb : ∀ j, i ≤ j → j < i + k → b j = b' j ∧ e j = e' j) : keepF b e mark i k = keepF b' e' mark i k := by
  induction k generalizing i with
  | zero => rfl
  | succ k ih =>
    unfold keepF
    obtain ⟨h1, h2⟩ := hb i (Nat.le_refl _) (by omega)
    rw [h1, h2, ih fun j h3 h4 => hb j (by omega) (by omega)]
end Go.Proofs.YtbodobdllchmgaaDoor
