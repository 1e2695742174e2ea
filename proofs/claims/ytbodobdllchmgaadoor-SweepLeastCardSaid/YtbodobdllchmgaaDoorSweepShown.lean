/- The walk of the statements' own 'shown'. -/
import Derived.Test.YtbodobdllchmgaaDoorSweepNode
namespace Go.Proofs.YtbodobdllchmgaaDoor
open Go Go.RowKit
set_option linter.unusedVariables false

variable {o : List Nat} {w0 w : World} {b : Nat} {A : ASt}

theorem newSt_used (ab n : Nat) (st : Int) : (newSt ab n st).used = 0 := rfl
theorem tab_nil : 0 ∉ ([] : List Nat) := by simp

/-- An arena and a store upon it. -/
theorem new_both (w w1 : World) (k : Kept [] w w1) (n : Nat) (h0 : 1 ≤ n) (h1 : n ≤ 65536) :
    Calls Tryd.prog 28 #[.int .i64 n] w1 fun e w' => ∃ ab, e = .returned (.tuple #[.pointer (some ⟨ab, 0, none⟩), .int .i64 0]) ∧ Has [] w w' (.arena ab ⟨n, fun _ => none, 0⟩) := by
  refine (own_new k n (by omega) (by omega)).mono ?_
  rintro e w' ⟨ab, rfl, h⟩
  exact ⟨ab, rfl, Has.ofOwn h⟩

/-- A sweep that was begun. -/
theorem sweep_begin (h : Has o w0 w (.store b A)) (p : Option Addr) (n cap : Nat) (z : Nat → Int) (hin : InRow w p n z) (hn : n ≤ 140737488351232 / 8) (mark : Int) :
    Calls Tryd.prog 10 #[Pt b, .slice p n cap, .int .i64 mark] w fun e w' => ∃ ob nv, e = .returned (Pt ob) ∧ Has o w0 w' (.sw b ob A nv mark (.func (.func 32) #[Pt ob] #[]) 0 false nv ((List.range n).map z)) := by
  refine (begin_sweep w (some ⟨b, 0, none⟩) p n cap z hin hn mark).mono ?_
  rintro e w' ⟨ob, nv, rfl, h'⟩
  refine ⟨ob, nv, rfl, ?_⟩
  have h2 := h.beside h'
  obtain ⟨_, h3, _, _, b3⟩ := h2.right
  exact b3 _ _ h3.swap

theorem sw_view {ob : Nat} {fv nv : Value} {mark gone : Int} {dn : Bool} {l : List Int} {cur : Value} (h : Has o w0 w (.sw b ob A cur mark fv gone dn nv l)) : (nv = .slice none 0 0 ∧ l = []) ∨ ∃ g cap, nv = .slice (some ⟨g, 0, none⟩) l.length cap ∧ l.length ≤ cap ∧ cap ≤ maxLen := by
  obtain ⟨_, h1, _⟩ := Has.right (A := .store b A) h
  obtain ⟨_, h2, _⟩ := h1.right
  rcases row_val (ap_row h2) with ⟨e, h0⟩ | ⟨g, c, e, h3, h4, _⟩
  · exact .inl ⟨e, List.eq_nil_of_length_eq_zero h0⟩
  · exact .inr ⟨g, c, e, h3, h4⟩

set_option maxHeartbeats 4000000 in
set_option maxRecDepth 100000 in
theorem shown_calls (w : World) (hT : TabAt w) :
    Calls Tryd.prog 9 #[] w fun e w' => e = .returned (.bool true) ∧ Kept [] w w' := by
  have HT := Lib.hid hT
  clear hT
  go_enter Tryd.func9, Tryd.ntmps9
  go_wp2_with fail
  refine (new_both w w (Kept.refl _ _) 20 (by omega) (by omega)).mono ?_
  rintro e w1 ⟨ab, rfl, hA⟩
  have HA := Lib.hid hA
  clear hA
  go_wp2_with fail
  refine (new_store (by omega) HA.out).mono ?_
  rintro e w2 ⟨b, rfl, hX⟩
  have HX := Lib.hid hX
  clear hX HA
  go_wp2_with fail
  have HN := Lib.hid (show Calls Tryd.prog 30 #[.pointer (some ⟨b, 0, none⟩)] w2 fun e w' => e = .returned (.tuple #[.int .i64 1, .int .i64 0]) ∧ ∃ st, Has [] w w' (.store b ((newSt ab 20 0).addNode st)) from node_make HX.out HT.out tab_nil (by show (0 : Nat) + 2 ≤ 20; omega))
  refine HN.out.mono ?_
  rintro e w3 ⟨rfl, st3, hX3⟩
  have hA : ((newSt ab 20 0).addNode st3).at_ (.head 0) = some 0 := rfl
  generalize (newSt ab 20 0).addNode st3 = A3 at *
  have HA3 := Lib.hid hA
  have HX3 := Lib.hid (hX3.alloc (.cells #[.int .i64 1] 3))
  have hb := Blk.made w3 #[.int .i64 1] 3 (fun _ => .int .i64 1) 1 rfl (fun i hi => match i, hi with | 0, _ => rfl)
  have HBG := Lib.hid (sweep_begin HX3.out (some ⟨w3.heap.size, 0, none⟩) 1 1 (fun _ => 1) ⟨fun e => (by cases e), fun _ => ⟨w3.heap.size, 0, rfl, hb.lt, fun i hi => by rw [Nat.zero_add]; exact hb.cell hi⟩⟩ (by omega) 5)
  clear hX3 HX HN hA hb
  go_wp2_with fail
  refine HBG.out.mono ?_
  rintro e w4 ⟨ob, nv, rfl, hX⟩
  rcases sw_view hX with ⟨_, h0⟩ | ⟨g, cap, hnv, h1, h2⟩
  · simp at h0
  obtain ⟨c, rfl⟩ : ∃ c, cap = c + 1 := ⟨cap - 1, by simp at h1; omega⟩
  have hl : ((List.range 1).map fun _ => (1 : Int)) = [1] := rfl
  rw [hl] at hX hnv
  have h3 : maxLen ≤ 9223372036854775807 := by decide
  have hruns : Runs ob (fun n W => (n = 1 ∧ Has [] w W (.sw b ob A3 (.slice (some ⟨g, 0, none⟩) (0 + 1) (c + 1)) 5 (.func (.func 32) #[Pt ob] #[]) 0 false nv [1])) ∨ (n = 0 ∧ ∃ A' k', Has [] w W (.sw b ob A' (.slice (some ⟨g, k', none⟩) 0 c) 5 (.func (.func 32) #[Pt ob] #[]) 0 false nv [1])))
      (fun W => ∃ A' cur, Has [] w W (.sw b ob A' cur 5 (.func (.func 32) #[Pt ob] #[]) 0 true nv [1])) := by
    refine ⟨fun n W h => ?_, fun W h => ?_⟩
    · rcases h with ⟨hn, h⟩ | ⟨hn, _⟩
      · obtain rfl : n = 0 := by omega
        refine (step_skip h hnv rfl (by omega) (by omega) (.inr ⟨0, rfl, HA3.out⟩)).mono ?_
        rintro e w' ⟨rfl, st, k', _, h'⟩
        exact ⟨rfl, .inr ⟨rfl, _, k', h'⟩⟩
      · omega
    · rcases h with ⟨hn, h⟩ | ⟨_, A', k', h⟩
      · omega
      · refine (step_end h).mono ?_
        rintro e w' ⟨rfl, h'⟩
        exact ⟨rfl, _, _, h'⟩
  have hstart : Has [] w w4 (.sw b ob A3 (.slice (some ⟨g, 0, none⟩) (0 + 1) (c + 1)) 5 (.func (.func 32) #[Pt ob] #[]) 0 false nv [1]) := by
    rw [hnv] at hX ⊢; exact hX
  have HD := Lib.hid (done_walk hruns 1 100 (by omega) (by omega) (.inl ⟨rfl, hstart⟩))
  clear hX hnv h1 h2 h3 hl hruns hstart HBG
  go_wp2_with fail
  refine HD.out.mono ?_
  rintro e w5 ⟨rfl, A', cur, hX⟩
  have HG := Lib.hid (gone_at hX)
  have HK := Lib.hid hX.keeps
  clear hX HD
  go_wp2_with fail
  refine HG.out.mono ?_
  rintro e w6 ⟨rfl, rfl⟩
  go_wp2_with fail
  go_ret
  exact ⟨rfl, HK.out⟩
end Go.Proofs.YtbodobdllchmgaaDoor
