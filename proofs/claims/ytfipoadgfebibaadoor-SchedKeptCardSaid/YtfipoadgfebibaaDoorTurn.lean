/- The walk of a turn: a task does a step, or none. -/
import Derived.Test.YtfipoadgfebibaaDoorStep
namespace Go.Proofs.YtfipoadgfebibaaDoor
open Go Go.RowKit
set_option linter.unusedVariables false

/-- A turn of a run: whether there was a step, the arena, what has come out. -/
def turnS (n : Nat) (L : Nat → Nat) (P : Nat → Nat → OpV) (S : Ar) (outs : Nat → List Int) (p : Int) : Bool × Ar × (Nat → List Int) :=
  if 0 ≤ p ∧ p < n ∧ (outs p.toNat).length < L p.toNat then
    (true, (doS S (P p.toNat (outs p.toNat).length).k (P p.toNat (outs p.toNat).length).c (P p.toNat (outs p.toNat).length).x (P p.toNat (outs p.toNat).length).y).2.2,
      updF outs p.toNat (outs p.toNat ++ [(doS S (P p.toNat (outs p.toNat).length).k (P p.toNat (outs p.toNat).length).c (P p.toNat (outs p.toNat).length).x (P p.toNat (outs p.toNat).length).y).1]))
  else (false, S, outs)

/-- The row of tasks. -/
noncomputable def tasksP (tv : Value) (n : Nat) (tb : Nat → Nat) : Part := .row 57 1 tv n ((List.range n).map fun i => .iface 52 (.pointer (some ⟨tb i, 0, none⟩)))

theorem RunAt.tasks {w0 w b S n tb vs ov outs tv} (h : RunAt w0 w b S n tb vs ov outs (tasksP tv n tb)) :
    ∃ p cap, tv = .slice p n cap ∧ (0 < n → ∃ g, p = some ⟨g, 0, none⟩ ∧ ∀ i, i < n → w.cell? ⟨g, i, none⟩ = some (.iface 52 (.pointer (some ⟨tb i, 0, none⟩)))) := by
  obtain ⟨o1, ⟨fp, ⟨hr, _⟩, _⟩, _⟩ := h.right
  rcases row_val hr with ⟨h1, h0⟩ | ⟨g, cap, h1, _, _, _, _, hc⟩
  · exact ⟨none, 0, by rw [h1, h0], fun h => by omega⟩
  · refine ⟨_, cap, h1, fun _ => ⟨g, rfl, fun i hi => hc i _ ?_⟩⟩
    rw [List.getElem?_map, List.getElem?_range hi]; rfl

set_option maxHeartbeats 4000000 in
set_option maxRecDepth 100000 in
theorem turn_calls {w0 w b S n tb vs ov outs tv} (h : RunAt w0 w b S n tb vs ov outs (tasksP tv n tb)) (hT : TabAt w0) {L : Nat → Nat} {P : Nat → Nat → OpV} (hn : n ≤ 16) (ho : ∀ i, i < n → OpsAt w0 (vs i) (L i) (P i)) (hL : ∀ i, i < n → L i ≤ 65536) (hl : ∀ i, i < n → (outs i).length ≤ L i) (p : Int) :
    Calls Tryd.prog 21 #[tv, .int .i64 p] w fun e w' => e = .returned (.bool (turnS n L P S outs p).1) ∧ ∃ ov', RunAt w0 w' b (turnS n L P S outs p).2.1 n tb vs ov' (turnS n L P S outs p).2.2 (tasksP tv n tb) := by
  obtain ⟨q, cap, htv, hg⟩ := h.tasks
  have HR := Lib.hid h
  have HT := Lib.hid hT
  have HO := Lib.hid ho
  have HLL := Lib.hid hL
  have HL := Lib.hid hl
  have HG := Lib.hid hg
  clear h hT ho hL hl hg
  by_cases hp0 : p < 0
  · have e : turnS n L P S outs p = (false, S, outs) := by unfold turnS; rw [if_neg (by omega)]
    rw [e]
    subst htv
    have d0 : decide (p ≥ 0) = false := by simp; omega
    go_enter Tryd.func21, Tryd.ntmps21
    go_wp2_with fail
    go_ret
    exact ⟨rfl, _, HR.out⟩
  obtain ⟨i, rfl⟩ := Int.eq_ofNat_of_zero_le (a := p) (by omega)
  have d0 : decide ((i : Int) ≥ 0) = true := by simp
  by_cases hin : i < n
  · obtain ⟨g, rfl, hc⟩ := HG.out (by omega)
    have c0 := hc i hin
    have d1 : decide ((i : Int) < (n : Int)) = true := by simp; omega
    have hb : 0 ≤ (i : Int) ∧ (i : Int) < (n : Int) := by omega
    have HTV := Lib.hid htv
    clear hc htv
    have hlen := HL.out i hin
    by_cases hd : (outs i).length = L i
    · have e : turnS n L P S outs i = (false, S, outs) := by unfold turnS; rw [if_neg (by simp; omega)]
      rw [e, HTV.out]
      clear e hlen
      have HD := Lib.hid hd
      clear hd
      go_enter Tryd.func21, Tryd.ntmps21
      go_wp2_with fail
      refine (step_done HR.out hin (HO.out i hin) HD.out).mono ?_
      rintro e w1 ⟨rfl, hR⟩
      have HR1 := Lib.hid hR
      clear hR
      go_wp2_with fail
      go_ret
      exact ⟨rfl, _, by rw [← HTV.out]; exact HR1.out⟩
    · have e : turnS n L P S outs i = (true, (doS S (P i (outs i).length).k (P i (outs i).length).c (P i (outs i).length).x (P i (outs i).length).y).2.2, updF outs i (outs i ++ [(doS S (P i (outs i).length).k (P i (outs i).length).c (P i (outs i).length).x (P i (outs i).length).y).1])) := by
        unfold turnS; rw [if_pos ⟨by omega, by omega, by simp; omega⟩]; simp
      rw [e, HTV.out]
      clear e
      generalize hz : doS S (P i (outs i).length).k (P i (outs i).length).c (P i (outs i).length).x (P i (outs i).length).y = z
      obtain ⟨a1, a2, S'⟩ := z
      have HZ := Lib.hid hz
      have HD := Lib.hid (show (outs i).length < L i by omega)
      clear hd hz hlen
      go_enter Tryd.func21, Tryd.ntmps21
      go_wp2_with fail
      refine (step_does HR.out HT.out hin (HO.out i hin) _ rfl HD.out (HLL.out i hin) a1 a2 S' HZ.out).mono ?_
      rintro e w1 ⟨rfl, ov', hR⟩
      have HR1 := Lib.hid hR
      clear hR
      go_wp2_with fail
      go_ret
      exact ⟨rfl, _, by rw [← HTV.out]; exact HR1.out⟩
  · have e : turnS n L P S outs i = (false, S, outs) := by unfold turnS; rw [if_neg (by omega)]
    rw [e]
    subst htv
    have d1 : decide ((i : Int) < (n : Int)) = false := by simp; omega
    go_enter Tryd.func21, Tryd.ntmps21
    go_wp2_with fail
    go_ret
    exact ⟨rfl, _, HR.out⟩
end Go.Proofs.YtfipoadgfebibaaDoor
