/- The walk of the statements' own 'shown': true, and nothing that was there has changed. -/
import Derived.Test.YtfipoadgfebibaaDoorRun
import Derived.Test.YtfipoadgfebibaaDoorWords
namespace Go.Proofs.YtfipoadgfebibaaDoor
open Go Go.RowKit
set_option linter.unusedVariables false

theorem row_small {w : World} {e : TypeId} {v : Value} {n : Nat} {xs : List Value} (h : w.ownsRow 0 e 1 v n xs) : n ≤ maxLen := by
  rcases row_val h with ⟨_, h0⟩ | ⟨g, cap, _, h1, h2, _⟩
  · rw [h0]; exact Nat.zero_le _
  · exact Nat.le_trans h1 h2

/-- What came out, as it is read. -/
theorem Has.lists {o : List Nat} {w0 w : World} {v : Value} {n : Nat} {ov : Nat → Value} {outs : Nat → List Int} (h : Has o w0 w (.outs v n ov outs)) :
    ListsAt w v n (fun i => (outs i).length) (fun i k => (outs i).getD k 0) := by
  obtain ⟨o1, h1, _, _, _⟩ := h.left
  obtain ⟨o2, h2, _, _, _⟩ := h.right
  refine ⟨ov, h1.rowAt ov (fun i hi => by rw [List.getElem?_map, List.getElem?_range hi]; rfl), fun i hi => ?_⟩
  obtain ⟨o3, h3, _, _, _⟩ := h2.pick hi
  refine ⟨h3.rowAt _ (fun k hk => ?_), ?_⟩
  · show _ = some (Value.int .u64 ((outs i).getD k 0))
    rw [List.getElem?_map, List.getD_eq_getElem?_getD, List.getElem?_eq_getElem hk]; rfl
  · obtain ⟨fp, ⟨hr, _⟩, _⟩ := h3
    exact row_small hr

theorem Has.rowSmall {o : List Nat} {w0 w : World} {e : TypeId} {v : Value} {n : Nat} {xs : List Value} (h : Has o w0 w (.row e 1 v n xs)) : n ≤ maxLen := by
  obtain ⟨fp, ⟨hr, _⟩, _⟩ := h
  exact row_small hr

noncomputable def shW (w : World) : World := ((w.alloc (.cells #[.int .i64 4, .int .i64 0, .int .u64 1, .int .u64 0] 38)).alloc (.cells #[.slice (some ⟨w.heap.size, 0, none⟩) 1 1] 35)).alloc (.cells #[.int .i64 0, .int .i64 0] 3)

theorem shW_kept (w : World) : Kept [] w (shW w) := (((Kept.refl [] w).alloc _).alloc _).alloc _

theorem shW_progs (w : World) : ProgsAt (shW w) (.slice (some ⟨w.heap.size + 1, 0, none⟩) 1 1) 1 (fun _ => 1) (fun _ => .slice (some ⟨w.heap.size, 0, none⟩) 1 1) (fun _ _ => ⟨4, 0, 1, 0⟩) := by
  have b0 : Blk (shW w) w.heap.size 4 38 (fun i => (#[.int .i64 4, .int .i64 0, .int .u64 1, .int .u64 0] : Array Value).getD i default) :=
    ((Blk.made w _ _ _ 4 rfl (fun i hi => by rcases (by omega : i = 0 ∨ i = 1 ∨ i = 2 ∨ i = 3) with rfl | rfl | rfl | rfl <;> rfl)).alloc _).alloc _
  have b1 : Blk (shW w) (w.heap.size + 1) 1 35 (fun i => .slice (some ⟨w.heap.size, 0, none⟩) 1 1) := by
    have h := (Blk.made (w.alloc (.cells #[.int .i64 4, .int .i64 0, .int .u64 1, .int .u64 0] 38)) #[.slice (some ⟨w.heap.size, 0, none⟩) 1 1] 35 (fun i => .slice (some ⟨w.heap.size, 0, none⟩) 1 1) 1 rfl (fun i hi => by rcases (by omega : i = 0) with rfl; rfl)).alloc (.cells #[.int .i64 0, .int .i64 0] 3)
    simpa [shW] using h
  refine ⟨_, _, rfl, by omega, fun i hi => ⟨_, _, rfl, by simp, fun k hk => ⟨by simp, by simp⟩, fun _ => ⟨_, _, rfl, b0.lt, fun k hk => ?_⟩⟩, fun _ => ⟨_, _, rfl, b1.lt, fun i hi => ?_⟩⟩
  · obtain rfl : k = 0 := by simpa using hk
    exact ⟨b0.cell (i := 0) (by omega), b0.cell (i := 1) (by omega), b0.cell (i := 2) (by omega), b0.cell (i := 3) (by omega)⟩
  · obtain rfl : i = 0 := by omega
    exact b1.cell (i := 0) (by omega)

theorem shW_picks (w : World) : PicksAt (shW w) (.slice (some ⟨w.heap.size + 1 + 1, 0, none⟩) 2 2) 2 (fun _ => 0) := by
  have b1 : Blk (shW w) (w.heap.size + 1 + 1) 2 3 (fun i => .int .i64 0) := by
    have h := Blk.made ((w.alloc (.cells #[.int .i64 4, .int .i64 0, .int .u64 1, .int .u64 0] 38)).alloc (.cells #[.slice (some ⟨w.heap.size, 0, none⟩) 1 1] 35)) #[.int .i64 0, .int .i64 0] 3 (fun i => .int .i64 0) 2 rfl (fun i hi => by rcases (by omega : i = 0 ∨ i = 1) with rfl | rfl <;> rfl)
    simpa [shW] using h
  refine ⟨_, _, rfl, by omega, fun _ => ⟨_, _, rfl, b1.lt, fun i hi => ?_⟩⟩
  rw [Nat.zero_add]
  exact b1.cell hi

theorem sh_ok : runOk 1 1 (fun _ => 1) (fun _ _ => ⟨4, 0, 1, 0⟩) := ⟨by omega, by omega, by omega, fun i hi => ⟨by simp, fun k hk => ⟨by simp, by simp, by simp, by simp⟩⟩⟩

theorem sh_run : (runS 1 (fun _ => 1) (fun _ _ => ⟨4, 0, 1, 0⟩) (allTaken 1) (fun _ => 0) 2).2.1 0 = [1] ∧ (runS 1 (fun _ => 1) (fun _ _ => ⟨4, 0, 1, 0⟩) (allTaken 1) (fun _ => 0) 2).2.2 = 1 ∧
    (runS 1 (fun _ => 1) (fun _ _ => ⟨4, 0, 1, 0⟩) (allTaken 1) (fun _ => 0) 2).1.get 0 = some 1 := ⟨rfl, rfl, rfl⟩

set_option maxHeartbeats 1000000 in
set_option maxRecDepth 100000 in
theorem shown_calls (w : World) (hT : TabAt w) :
    Calls Tryd.prog 9 #[] w fun e w' => e = .returned (.bool true) ∧ Kept [] w w' := by
  have hrun := run_calls (shW w) (hT.kept (shW_kept w) (by simp)) 1 _ _ 1 _ _ _ 2 _ (shW_progs w) (shW_picks w) sh_ok
  have HR := Lib.hid hrun
  have HK := Lib.hid (shW_kept w)
  clear hT hrun
  go_enter Tryd.func9, Tryd.ntmps9
  go_wp2_with fail
  refine HR.out.mono ?_
  rintro e w1 ⟨ov, hv, ovs, rfl, hH⟩
  have hH2 : Kept [] w w1 := HK.out.tr hH.keeps
  clear HR HK
  obtain ⟨e1, e2, e3⟩ := sh_run
  obtain ⟨o1, h1, _, _, _⟩ := hH.left
  obtain ⟨o2, h2, _, _, _⟩ := hH.right
  obtain ⟨vs, ⟨p, cap, rfl, hc⟩, hl⟩ := h1.lists
  obtain ⟨b, off, rfl, _, hc⟩ := hc (by omega)
  have c0 := hc 0 (by omega)
  obtain ⟨⟨q, qcap, hq, hqc⟩, _⟩ := hl 0 (by omega)
  simp only [e1] at hq hqc
  obtain ⟨b', off', rfl, _, hqc⟩ := hqc (by decide)
  have c1 := hqc 0 (by decide)
  rw [hq] at c0
  obtain ⟨p3, cap3, rfl, hc3⟩ := h2.rowAt (fun _ => .int .u64 1) (fun i hi => by
    obtain rfl : i = 0 := by omega
    rw [List.getElem?_map, List.getElem?_range (by omega)]
    simp [e3])
  obtain ⟨b3, off3, rfl, _, hc3⟩ := hc3 (by omega)
  have c2 := hc3 0 (by omega)
  rw [e2]
  clear hH h1 h2 hc hl hqc hc3
  have HH := Lib.hid hH2
  clear hH2 e1 e2 e3 hq
  simp only [List.getD_cons_zero, Nat.add_zero, List.length_cons, List.length_nil] at c0 c1 c2
  go_wp2_with fail
  go_ret
  exact ⟨rfl, HH.out⟩
end Go.Proofs.YtfipoadgfebibaaDoor
