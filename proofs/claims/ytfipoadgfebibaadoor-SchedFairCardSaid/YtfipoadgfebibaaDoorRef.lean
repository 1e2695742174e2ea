/- The reference's arena in memory, and the walks of its calls. -/
import Derived.Test.YtfipoadgfebibaaDoorArena
import Derived.Test.YtfipoadgfebibaaDoorRow
namespace Go.Proofs.YtfipoadgfebibaaDoor
open Go Go.RowKit
set_option linter.unusedVariables false

def rfF (size : Int) (hv tv : Value) (many : Int) : Nat → Value := fun i =>
  if i = 0 then .int .i64 size else if i = 1 then hv else if i = 2 then tv else .int .i64 many

structure RfRep (w : World) (b : Nat) (hv tv : Value) (size : Int) (hs : List Int) (ts : List Bool) (many : Int) : Prop where
  blk : Blk w b 4 63 (rfF size hv tv many)
  hrow : w.ownsRow 0 32 1 hv hs.length (hs.map (Value.int .u64))
  trow : w.ownsRow 0 4 1 tv ts.length (ts.map Value.bool)
  hne : hv.ownBlock ≠ some b
  tne : tv.ownBlock ≠ some b
  apart : ∀ k, hv.ownBlock = some k → tv.ownBlock ≠ some k
  len : hs.length = ts.length
  few : hs.length ≤ 65536

theorem RfRep.c0 {w b hv tv size hs ts many} (h : RfRep w b hv tv size hs ts many) : w.cell? ⟨b, 0, none⟩ = some (.int .i64 size) := h.blk.cell (by omega)
theorem RfRep.c1 {w b hv tv size hs ts many} (h : RfRep w b hv tv size hs ts many) : w.cell? ⟨b, 1, none⟩ = some hv := h.blk.cell (by omega)
theorem RfRep.c2 {w b hv tv size hs ts many} (h : RfRep w b hv tv size hs ts many) : w.cell? ⟨b, 2, none⟩ = some tv := h.blk.cell (by omega)
theorem RfRep.c3 {w b hv tv size hs ts many} (h : RfRep w b hv tv size hs ts many) : w.cell? ⟨b, 3, none⟩ = some (.int .i64 many) := h.blk.cell (by omega)

def takenR (ts : List Bool) (c : Int) : Bool := decide (0 ≤ c) && decide (c < ts.length) && ts.getD c.toNat false

set_option maxHeartbeats 1000000 in
theorem rthere_neg (w : World) (b : Nat) (c : Int) (hd : decide (c ≥ 0) = false) :
    Calls Tryd.prog 31 #[.pointer (some ⟨b, 0, none⟩), .int .i64 c] w fun e w' => e = .returned (.bool false) ∧ w = w' := by
  go_enter Tryd.func31, Tryd.ntmps31
  go_wp2
  go_ret
  exact ⟨rfl, rfl⟩

set_option maxHeartbeats 1000000 in
theorem rthere_past (w : World) (b n cap c : Nat) (p : Option Addr) (h2 : w.cell? ⟨b, 2, none⟩ = some (.slice p n cap)) (hd2 : decide (c < n) = false) :
    Calls Tryd.prog 31 #[.pointer (some ⟨b, 0, none⟩), .int .i64 c] w fun e w' => e = .returned (.bool false) ∧ w = w' := by
  have hd : decide ((c : Int) ≥ 0) = true := by simp
  go_enter Tryd.func31, Tryd.ntmps31
  go_wp2
  go_ret
  exact ⟨rfl, rfl⟩

set_option maxHeartbeats 1000000 in
theorem rthere_in (w : World) (b n cap c g : Nat) (t : Bool) (hn : n ≤ 65536) (h2 : w.cell? ⟨b, 2, none⟩ = some (.slice (some ⟨g, 0, none⟩) n cap)) (hc : c < n) (ht : w.cell? ⟨g, c, none⟩ = some (.bool t)) :
    Calls Tryd.prog 31 #[.pointer (some ⟨b, 0, none⟩), .int .i64 c] w fun e w' => e = .returned (.bool t) ∧ w = w' := by
  have hd : decide ((c : Int) ≥ 0) = true := by simp
  have hd2 : decide (c < n) = true := by simpa using hc
  go_enter Tryd.func31, Tryd.ntmps31
  go_wp2
  go_ret
  exact ⟨rfl, rfl⟩

theorem rthere_calls {w b hv tv size hs ts many} (h : RfRep w b hv tv size hs ts many) (c : Int) :
    Calls Tryd.prog 31 #[.pointer (some ⟨b, 0, none⟩), .int .i64 c] w fun e w' => e = .returned (.bool (takenR ts c)) ∧ w = w' := by
  by_cases hn : c < 0
  · have : takenR ts c = false := by unfold takenR; simp; omega
    rw [this]
    exact rthere_neg w b c (by simp; omega)
  · obtain ⟨k, rfl⟩ := Int.eq_ofNat_of_zero_le (a := c) (by omega)
    have h2 := h.c2
    have hf := h.few
    have hl := h.len
    rcases row_val h.trow with ⟨rfl, h0⟩ | ⟨g, cap, rfl, hcap, hcap2, hlt, hfr, hcells⟩
    · have : takenR ts (k : Int) = false := by unfold takenR; simp; omega
      rw [this]
      exact rthere_past w b 0 0 k none h2 (by simp)
    · by_cases hp : ts.length ≤ k
      · have : takenR ts (k : Int) = false := by unfold takenR; simp; omega
        rw [this]
        exact rthere_past w b ts.length cap k _ h2 (by simp; omega)
      · have e : takenR ts (k : Int) = ts.getD k false := by unfold takenR; simp; omega
        rw [e]
        refine rthere_in w b ts.length cap k g _ (by omega) h2 (by omega) (hcells k _ ?_)
        rw [List.getElem?_map, List.getElem?_eq_getElem (by omega), List.getD_eq_getElem?_getD, List.getElem?_eq_getElem (by omega)]
        rfl

end Go.Proofs.YtfipoadgfebibaaDoor
