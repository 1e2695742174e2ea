/- The reference's arena in memory, and the walks of its calls. -/
import Derived.Test.YtngmimhpeeahoaaDoorArena
namespace Go.Proofs.YtngmimhpeeahoaaDoor
open Go Go.RowKit
set_option linter.unusedVariables false

/-- A store into a row of the call's own. -/
theorem row_put {w : World} {e : TypeId} {g n cap : Nat} {xs : List Value} (h : w.ownsRow 0 e 1 (.slice (some ⟨g, 0, none⟩) n cap) n xs) (k : Nat) (u : Value) (hk : k < n) :
    (w.setCell ⟨g, k, none⟩ u).ownsRow 0 e 1 (.slice (some ⟨g, 0, none⟩) n cap) n (xs.set k u) := by
  obtain ⟨hl, h1 | ⟨g', cap', cur, hv', h0, hg, h2, h3, h4, h5⟩⟩ := h
  · cases h1.1
  · cases hv'
    refine ⟨by simpa using hl, .inr ⟨g, cap, cur.setIfInBounds k u, rfl, Nat.zero_le _, ?_, h2, h3, by simpa using h4, ?_⟩⟩
    · simp [World.setCell, Array.getElem?_modify, hg]
    · simp only [Array.toList_setIfInBounds]
      rw [← h5, Nat.mul_one, List.take_set]

/-- A store elsewhere. -/
theorem row_other {w : World} {e : TypeId} {n : Nat} {v : Value} {xs : List Value} (h : w.ownsRow 0 e 1 v n xs) {a : Addr} (u : Value) (hne : v.ownBlock ≠ some a.block) : (w.setCell a u).ownsRow 0 e 1 v n xs := by
  obtain ⟨hl, h1 | ⟨g', cap', cur, rfl, h0, hg, h2, h3, h4, h5⟩⟩ := h
  · exact ⟨hl, .inl h1⟩
  · refine ⟨hl, .inr ⟨g', cap', cur, rfl, h0, ?_, h2, h3, h4, h5⟩⟩
    rw [Below.heap_setCell w a u g' (fun e => hne (by simp [Value.ownBlock, e]))]
    exact hg

def rfF (size : Int) (hv tv : Value) (many : Int) : Nat → Value := fun i =>
  if i = 0 then .int .i64 size else if i = 1 then hv else if i = 2 then tv else .int .i64 many

structure RfRep (w : World) (b : Nat) (hv tv : Value) (size : Int) (hs : List Int) (ts : List Bool) (many : Int) : Prop where
  blk : Blk w b 4 57 (rfF size hv tv many)
  hrow : w.ownsRow 0 30 1 hv hs.length (hs.map (Value.int .u64))
  trow : w.ownsRow 0 4 1 tv ts.length (ts.map Value.bool)
  hne : hv.ownBlock ≠ some b
  tne : tv.ownBlock ≠ some b
  apart : ∀ k, hv.ownBlock = some k → tv.ownBlock ≠ some k
  len : hs.length = ts.length
  few : hs.length ≤ 65536

theorem RfRep.c0 {w b hv tv size hs ts many} (h : RfRep w b hv tv size hs ts many) : w.cell? ⟨b, 0, none⟩ = some (.int .i64 size) := h.blk.cell (by omega)
theorem RfRep.c1 {w b hv tv size hs ts many} (h : RfRep w b hv tv size hs ts many) : w.cell? ⟨b, 1, none⟩ = some hv := h.blk.cell (by omega)
theorem RfRep.c2 {w b hv tv size hs ts many} (h : RfRep w b hv tv size hs ts many) : w.cell? ⟨b, 2, none⟩ = some tv := h.blk.cell (by omega)
theorem RfRep.c3 {w b hv tv size hs ts many} (h : RfRep w b hv tv size hs ts many) : w.cell? ⟨b, 3, none⟩ = some (.int .i64 many) := h.blk.cell (by omega)

/-- A row, spelt out: empty, or a slice with its cells. -/
theorem row_val {w : World} {e : TypeId} {v : Value} {n : Nat} {xs : List Value} (h : w.ownsRow 0 e 1 v n xs) :
    (v = .slice none 0 0 ∧ n = 0) ∨ ∃ g cap, v = .slice (some ⟨g, 0, none⟩) n cap ∧ n ≤ cap ∧ cap ≤ maxLen ∧ g < w.heap.size ∧ (∀ i, w.frozen? ⟨g, i, none⟩ = false) ∧ ∀ i u, xs[i]? = some u → w.cell? ⟨g, i, none⟩ = some u := by
  rcases h.2 with ⟨h1, h0⟩ | ⟨g, cap, cur, rfl, _, hg, hnc, hcm, hcs, htake⟩
  · exact .inl ⟨h1, h0⟩
  · refine .inr ⟨g, cap, rfl, hnc, hcm, (Array.getElem?_eq_some_iff.1 hg).1, fun i => by simp [World.frozen?, hg], fun i u hu => ?_⟩
    have := h.cells (g := g) rfl i u hu
    simp only [Addr.add] at this
    split at this
    · rename_i e0; subst e0; simpa using this
    · simpa using this

def takenR (ts : List Bool) (c : Int) : Bool := decide (0 ≤ c) && decide (c < ts.length) && ts.getD c.toNat false

set_option maxHeartbeats 1000000 in
theorem rthere_neg (w : World) (b : Nat) (c : Int) (hd : decide (c ≥ 0) = false) :
    Calls Tryd.prog 30 #[.pointer (some ⟨b, 0, none⟩), .int .i64 c] w fun e w' => e = .returned (.bool false) ∧ w = w' := by
  go_enter Tryd.func30, Tryd.ntmps30
  go_wp2
  go_ret
  exact ⟨rfl, rfl⟩

set_option maxHeartbeats 1000000 in
theorem rthere_past (w : World) (b n cap c : Nat) (p : Option Addr) (h2 : w.cell? ⟨b, 2, none⟩ = some (.slice p n cap)) (hd2 : decide (c < n) = false) :
    Calls Tryd.prog 30 #[.pointer (some ⟨b, 0, none⟩), .int .i64 c] w fun e w' => e = .returned (.bool false) ∧ w = w' := by
  have hd : decide ((c : Int) ≥ 0) = true := by simp
  go_enter Tryd.func30, Tryd.ntmps30
  go_wp2
  go_ret
  exact ⟨rfl, rfl⟩

set_option maxHeartbeats 1000000 in
theorem rthere_in (w : World) (b n cap c g : Nat) (t : Bool) (hn : n ≤ 65536) (h2 : w.cell? ⟨b, 2, none⟩ = some (.slice (some ⟨g, 0, none⟩) n cap)) (hc : c < n) (ht : w.cell? ⟨g, c, none⟩ = some (.bool t)) :
    Calls Tryd.prog 30 #[.pointer (some ⟨b, 0, none⟩), .int .i64 c] w fun e w' => e = .returned (.bool t) ∧ w = w' := by
  have hd : decide ((c : Int) ≥ 0) = true := by simp
  have hd2 : decide (c < n) = true := by simpa using hc
  go_enter Tryd.func30, Tryd.ntmps30
  go_wp2
  go_ret
  exact ⟨rfl, rfl⟩

theorem rthere_calls {w b hv tv size hs ts many} (h : RfRep w b hv tv size hs ts many) (c : Int) :
    Calls Tryd.prog 30 #[.pointer (some ⟨b, 0, none⟩), .int .i64 c] w fun e w' => e = .returned (.bool (takenR ts c)) ∧ w = w' := by
  by_cases hn : c < 0
  · have : takenR ts c = false := by unfold takenR; simp; omega
    rw [this]
    exact rthere_neg w b c (by simp; omega)
  · obtain ⟨k, rfl⟩ := Int.eq_ofNat_of_zero_le (a := c) (by omega)
    have h2 := h.c2
    have hf := h.few
    have hl := h.len
    rcases row_val h.trow with ⟨rfl, h0⟩ | ⟨g, cap, rfl, hcap, hcap2, hlt, hfr, hcells⟩
    · have : takenR ts (k : Int) = false := by unfold takenR; simp; omega
      rw [this]
      exact rthere_past w b 0 0 k none h2 (by simp)
    · by_cases hp : ts.length ≤ k
      · have : takenR ts (k : Int) = false := by unfold takenR; simp; omega
        rw [this]
        exact rthere_past w b ts.length cap k _ h2 (by simp; omega)
      · have e : takenR ts (k : Int) = ts.getD k false := by unfold takenR; simp; omega
        rw [e]
        refine rthere_in w b ts.length cap k g _ (by omega) h2 (by omega) (hcells k _ ?_)
        rw [List.getElem?_map, List.getElem?_eq_getElem (by omega), List.getD_eq_getElem?_getD, List.getElem?_eq_getElem (by omega)]
        rfl

end Go.Proofs.YtngmimhpeeahoaaDoor
