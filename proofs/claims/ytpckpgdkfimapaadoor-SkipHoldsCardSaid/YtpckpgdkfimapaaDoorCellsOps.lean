/- The walks of an arena's step, Load, Store, CAS, Add: at every arena, every cell, every word. -/
import Derived.Test.YtpckpgdkfimapaaDoorCellsThere
namespace Go.Proofs.YtpckpgdkfimapaaDoor
open Go Go.RowKit
set_option linter.unusedVariables false

theorem arF_steps (size : Int) (hv : Value) (ws : Nat → Nat) (low used steps s : Int) (i : Nat) (hi : i < 1029) :
    upd (arF size hv ws low used steps) 1028 (.int .i64 s) i = arF size hv ws low used s i := by
  unfold upd arF
  by_cases e : i = 1028
  · subst e; simp
  · rw [if_neg e]
    repeat' split
    all_goals first | rfl | (exfalso; omega)

theorem ArRep.stepped {w b hv size hs ws low used steps} (h : ArRep w b hv size hs ws low used steps) (s : Int) :
    ArRep (w.setCell ⟨b, 1028, none⟩ (.int .i64 s)) b hv size hs ws low used s ∧ Kept [b] w (w.setCell ⟨b, 1028, none⟩ (.int .i64 s)) := by
  have k : Kept [b] w (w.setCell ⟨b, 1028, none⟩ (.int .i64 s)) := (Kept.refl _ w).set _ (by simp)
  refine ⟨⟨(h.blk.set 1028 _).congr (arF_steps size hv ws low used steps s), k.row h.row ?_, h.ne, h.word, h.few⟩, k⟩
  intro j hj m
  simp at m
  exact h.ne (by rw [hj, m])

/-- What a taken cell's address is. -/
theorem ArRep.at_ {w b hv size hs ws low used steps} (h : ArRep w b hv size hs ws low used steps) {c : Int} (ht : takenAt hs ws c = true) :
    ∃ g cap k, c = (k : Nat) ∧ k < hs.length ∧ hv = .slice (some ⟨g, 0, none⟩) hs.length cap ∧ g ≠ b ∧ g < w.heap.size ∧ hs.length ≤ cap ∧ cap ≤ maxLen ∧ w.cell? ⟨g, k, none⟩ = some (.int .u64 (hs.getD k 0)) ∧ w.frozen? ⟨g, k, none⟩ = false := by
  unfold takenAt at ht
  simp only [Bool.and_eq_true, decide_eq_true_eq] at ht
  obtain ⟨⟨h0, h1⟩, h2⟩ := ht
  obtain ⟨k, rfl⟩ := Int.eq_ofNat_of_zero_le h0
  rcases h.val with ⟨rfl, rfl⟩ | ⟨g, cap, rfl, hcap, hcap2, hne, hlt, hcells⟩
  · simp at h1; omega
  · refine ⟨g, cap, k, rfl, by omega, rfl, hne, hlt, hcap, hcap2, hcells k (by omega), ?_⟩
    obtain ⟨_, h1 | ⟨g', cap', cur, hv', _, hg, _⟩⟩ := h.row
    · cases h1.1
    · cases hv'
      simp [World.frozen?, hg]

set_option maxHeartbeats 1000000 in
set_option maxRecDepth 100000 in
theorem step_walk (w : World) (b g n cap k : Nat) (s : Int) (hk : k < n) (hn : n ≤ 65536) (hcap : n ≤ cap) (hcap2 : cap ≤ maxLen) (h1 : w.cell? ⟨b, 1, none⟩ = some (.slice (some ⟨g, 0, none⟩) n cap))
    (h5 : w.cell? ⟨b, 1028, none⟩ = some (.int .i64 s)) (hf : w.frozen? ⟨b, 1028, none⟩ = false)
    (ht : Calls Tryd.prog 40 #[.pointer (some ⟨b, 0, none⟩), .int .i64 k] w fun e w' => e = .returned (.int .i64 0) ∧ w = w') :
    Calls Tryd.prog 34 #[.pointer (some ⟨b, 0, none⟩), .int .i64 k] w fun e w' => e = .returned (.tuple #[.pointer (some ⟨g, k, none⟩), .int .i64 0]) ∧ w' = w.setCell ⟨b, 1028, none⟩ (.int .i64 (wrap64 (s + 1))) := by
  unfold maxLen at hcap2
  have Ht := Lib.hid ht
  clear ht
  go_enter Tryd.func34, Tryd.ntmps34
  go_wp2_with (go_at_call 40; refine (Ht.out).mono ?_; rintro e w' ⟨rfl, rfl⟩)
  go_ret2
  exact ⟨rfl, rfl⟩

set_option maxHeartbeats 1000000 in
theorem step_walk_no (w : World) (b : Nat) (c : Int)
    (ht : Calls Tryd.prog 40 #[.pointer (some ⟨b, 0, none⟩), .int .i64 c] w fun e w' => e = .returned (.int .i64 30) ∧ w = w') :
    Calls Tryd.prog 34 #[.pointer (some ⟨b, 0, none⟩), .int .i64 c] w fun e w' => e = .returned (.tuple #[.pointer none, .int .i64 30]) ∧ w = w' := by
  have Ht := Lib.hid ht
  clear ht
  go_enter Tryd.func34, Tryd.ntmps34
  go_wp2_with (go_at_call 40; refine (Ht.out).mono ?_; rintro e w' ⟨rfl, rfl⟩)
  go_ret2
  exact ⟨rfl, rfl⟩

set_option maxHeartbeats 1000000 in
set_option maxRecDepth 100000 in
theorem load_walk (w : World) (b g k : Nat) (s x : Int) (hgb : g ≠ b) (hc : w.cell? ⟨g, k, none⟩ = some (.int .u64 x)) (hf : w.frozen? ⟨g, k, none⟩ = false)
    (hs : Calls Tryd.prog 34 #[.pointer (some ⟨b, 0, none⟩), .int .i64 k] w fun e w' => e = .returned (.tuple #[.pointer (some ⟨g, k, none⟩), .int .i64 0]) ∧ w' = w.setCell ⟨b, 1028, none⟩ (.int .i64 s)) :
    Calls Tryd.prog 27 #[.pointer (some ⟨b, 0, none⟩), .int .i64 k] w fun e w' => e = .returned (.tuple #[.int .u64 x, .int .i64 0]) ∧ w' = (w.setCell ⟨b, 1028, none⟩ (.int .i64 s)) := by
  have Hs := Lib.hid hs
  clear hs
  go_enter Tryd.func27, Tryd.ntmps27
  go_wp2_with (go_at_call 34; refine (Hs.out).mono ?_; rintro e w' ⟨rfl, rfl⟩)
  go_ret2
  exact ⟨rfl, rfl⟩

set_option maxHeartbeats 1000000 in
theorem load_walk_no (w : World) (b : Nat) (c : Int)
    (hs : Calls Tryd.prog 34 #[.pointer (some ⟨b, 0, none⟩), .int .i64 c] w fun e w' => e = .returned (.tuple #[.pointer none, .int .i64 30]) ∧ w = w') :
    Calls Tryd.prog 27 #[.pointer (some ⟨b, 0, none⟩), .int .i64 c] w fun e w' => e = .returned (.tuple #[.int .u64 0, .int .i64 30]) ∧ w = w' := by
  have Hs := Lib.hid hs
  clear hs
  go_enter Tryd.func27, Tryd.ntmps27
  go_wp2_with (go_at_call 34; refine (Hs.out).mono ?_; rintro e w' ⟨rfl, rfl⟩)
  go_ret2
  exact ⟨rfl, rfl⟩

set_option maxHeartbeats 1000000 in
set_option maxRecDepth 100000 in
theorem store_walk (w : World) (b g k : Nat) (s x : Int) (v : Int) (hgb : g ≠ b) (hc : w.cell? ⟨g, k, none⟩ = some (.int .u64 x)) (hf : w.frozen? ⟨g, k, none⟩ = false)
    (hs : Calls Tryd.prog 34 #[.pointer (some ⟨b, 0, none⟩), .int .i64 k] w fun e w' => e = .returned (.tuple #[.pointer (some ⟨g, k, none⟩), .int .i64 0]) ∧ w' = w.setCell ⟨b, 1028, none⟩ (.int .i64 s)) :
    Calls Tryd.prog 45 #[.pointer (some ⟨b, 0, none⟩), .int .i64 k, .int .u64 v] w fun e w' => e = .returned (.int .i64 0) ∧ w' = (w.setCell ⟨b, 1028, none⟩ (.int .i64 s)).setCell ⟨g, k, none⟩ (.int .u64 v) := by
  have Hs := Lib.hid hs
  clear hs
  go_enter Tryd.func45, Tryd.ntmps45
  go_wp2_with (go_at_call 34; refine (Hs.out).mono ?_; rintro e w' ⟨rfl, rfl⟩)
  go_ret
  exact ⟨rfl, rfl⟩

set_option maxHeartbeats 1000000 in
theorem store_walk_no (w : World) (b : Nat) (c : Int) (v : Int)
    (hs : Calls Tryd.prog 34 #[.pointer (some ⟨b, 0, none⟩), .int .i64 c] w fun e w' => e = .returned (.tuple #[.pointer none, .int .i64 30]) ∧ w = w') :
    Calls Tryd.prog 45 #[.pointer (some ⟨b, 0, none⟩), .int .i64 c, .int .u64 v] w fun e w' => e = .returned (.int .i64 30) ∧ w = w' := by
  have Hs := Lib.hid hs
  clear hs
  go_enter Tryd.func45, Tryd.ntmps45
  go_wp2_with (go_at_call 34; refine (Hs.out).mono ?_; rintro e w' ⟨rfl, rfl⟩)
  go_ret
  exact ⟨rfl, rfl⟩

set_option maxHeartbeats 1000000 in
set_option maxRecDepth 100000 in
theorem cas_walk (w : World) (b g k : Nat) (s x : Int) (o v : Int) (hgb : g ≠ b) (hc : w.cell? ⟨g, k, none⟩ = some (.int .u64 x)) (hf : w.frozen? ⟨g, k, none⟩ = false) (hx : (x == o) = true) (hx2 : (x != o) = false)
    (hs : Calls Tryd.prog 34 #[.pointer (some ⟨b, 0, none⟩), .int .i64 k] w fun e w' => e = .returned (.tuple #[.pointer (some ⟨g, k, none⟩), .int .i64 0]) ∧ w' = w.setCell ⟨b, 1028, none⟩ (.int .i64 s)) :
    Calls Tryd.prog 46 #[.pointer (some ⟨b, 0, none⟩), .int .i64 k, .int .u64 o, .int .u64 v] w fun e w' => e = .returned (.tuple #[.bool true, .int .i64 0]) ∧ w' = (w.setCell ⟨b, 1028, none⟩ (.int .i64 s)).setCell ⟨g, k, none⟩ (.int .u64 v) := by
  have Hs := Lib.hid hs
  clear hs
  go_enter Tryd.func46, Tryd.ntmps46
  go_wp2_with (go_at_call 34; refine (Hs.out).mono ?_; rintro e w' ⟨rfl, rfl⟩)
  go_ret2
  exact ⟨rfl, rfl⟩

set_option maxHeartbeats 1000000 in
set_option maxRecDepth 100000 in
theorem cas_walk_not (w : World) (b g k : Nat) (s x : Int) (o v : Int) (hgb : g ≠ b) (hc : w.cell? ⟨g, k, none⟩ = some (.int .u64 x)) (hf : w.frozen? ⟨g, k, none⟩ = false) (hx : (x == o) = false) (hx2 : (x != o) = true)
    (hs : Calls Tryd.prog 34 #[.pointer (some ⟨b, 0, none⟩), .int .i64 k] w fun e w' => e = .returned (.tuple #[.pointer (some ⟨g, k, none⟩), .int .i64 0]) ∧ w' = w.setCell ⟨b, 1028, none⟩ (.int .i64 s)) :
    Calls Tryd.prog 46 #[.pointer (some ⟨b, 0, none⟩), .int .i64 k, .int .u64 o, .int .u64 v] w fun e w' => e = .returned (.tuple #[.bool false, .int .i64 0]) ∧ w' = (w.setCell ⟨b, 1028, none⟩ (.int .i64 s)) := by
  have Hs := Lib.hid hs
  clear hs
  go_enter Tryd.func46, Tryd.ntmps46
  go_wp2_with (go_at_call 34; refine (Hs.out).mono ?_; rintro e w' ⟨rfl, rfl⟩)
  go_ret2
  exact ⟨rfl, rfl⟩

set_option maxHeartbeats 1000000 in
theorem cas_walk_no (w : World) (b : Nat) (c : Int) (o v : Int)
    (hs : Calls Tryd.prog 34 #[.pointer (some ⟨b, 0, none⟩), .int .i64 c] w fun e w' => e = .returned (.tuple #[.pointer none, .int .i64 30]) ∧ w = w') :
    Calls Tryd.prog 46 #[.pointer (some ⟨b, 0, none⟩), .int .i64 c, .int .u64 o, .int .u64 v] w fun e w' => e = .returned (.tuple #[.bool false, .int .i64 30]) ∧ w = w' := by
  have Hs := Lib.hid hs
  clear hs
  go_enter Tryd.func46, Tryd.ntmps46
  go_wp2_with (go_at_call 34; refine (Hs.out).mono ?_; rintro e w' ⟨rfl, rfl⟩)
  go_ret2
  exact ⟨rfl, rfl⟩

end Go.Proofs.YtpckpgdkfimapaaDoor
