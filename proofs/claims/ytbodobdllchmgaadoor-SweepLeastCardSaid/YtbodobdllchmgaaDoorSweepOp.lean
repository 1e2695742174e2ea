/- A sweep's operation in memory; the walks of Clone and Begin. -/
import Derived.Test.YtbodobdllchmgaaDoorIntsPart
import Derived.Laws.EntriesVeiled
import Derived.Test.YtbodobdllchmgaaDoorStoreSt
namespace Go.Proofs.YtbodobdllchmgaaDoor
open Go Go.RowKit
set_option linter.unusedVariables false

variable {o : List Nat} {w0 w : World}

/-- An operation's block. -/
def opF (sv nv : Value) (mark : Int) (fv : Value) (gone : Int) (dn : Bool) (i : Nat) : Value := if i = 0 then sv else if i = 1 then nv else if i = 2 then .int .i64 mark else if i = 3 then fv else if i = 4 then .int .i64 gone else .bool dn

/-- A slice of numbers that came in. -/
def InRow (w : World) (p : Option Addr) (n : Nat) (z : Nat → Int) : Prop := (p = none → n = 0) ∧ (0 < n → ∃ b off, p = some ⟨b, off, none⟩ ∧ b < w.heap.size ∧ ∀ i, i < n → w.cell? ⟨b, off + i, none⟩ = some (.int .i64 (z i)))

theorem nil_slice (n cap : Nat) (w : World) : (binOp BinOp.eql 22 (.slice none n cap) (.slice none 0 0)).run Tryd.prog w = .ok (.bool true) w := by kernel_rfl
theorem not_nil (a : Addr) (n cap : Nat) (w : World) : (binOp BinOp.eql 22 (.slice (some a) n cap) (.slice none 0 0)).run Tryd.prog w = .ok (.bool false) w := by kernel_rfl

set_option maxHeartbeats 2000000 in
set_option maxRecDepth 100000 in
theorem clone_walk (w : World) (p : Option Addr) (n cap : Nat) (z : Nat → Int) (h : InRow w p n z) (hn : n ≤ 140737488351232 / 8) :
    Calls Tryd.prog 31 #[.slice p n cap] w fun e w' => ∃ rv, e = .returned rv ∧ Has [] w w' (.ints rv ((List.range n).map z)) := by
  obtain ⟨h0, hc⟩ := h
  obtain ⟨i0, hi0, hz0, hz1, hz2⟩ := info_parts info_int
  cases p with
  | none =>
    obtain rfl := h0 rfl
    have hnil := nil_slice 0 cap w
    go_enter Tryd.func31, Tryd.ntmps31
    go_wp2_with fail
    go_ret
    exact ⟨_, rfl, Has.nilInts w⟩
  | some a =>
    have HM := Lib.hid (Has.madeNone w)
    have HROW := Lib.hid (ap_row (Has.madeNone w))
    by_cases hpos : 0 < n
    · obtain ⟨b, off, he, hb, hcell⟩ := hc hpos
      obtain rfl : a = ⟨b, off, none⟩ := by simpa using he
      have HC := Lib.hid (nats_cells (w := w.alloc (.cells #[] 3)) (b := b) (off := off) (m := n) (z := z) (fun i hi => ((Kept.refl [] w).alloc _).cell (hcell i hi) (by simp)))
      have hnil := not_nil ⟨b, off, none⟩ n cap w
      clear hc hcell h0 he
      go_enter Tryd.func31, Tryd.ntmps31
      go_wp2_with (at_builtin; refine wpList_append_new rfl (.tmp 5) (.tmp 6) 22 rfl 3 i0 (.int .i64 0) 1 8 Tryd.underlying22 hi0 hz0 hz1 hz2 rfl (by decide) _ _ _ rfl HROW.out ⟨b, off, none⟩ n cap (((List.range n).map z).map (Value.int .i64)) rfl (by simp) HC.out (by intro u hu; simp at hu; obtain ⟨x, _, rfl⟩ := hu; rfl) (by simp only [maxLen, List.length_nil]; omega) (by simp only [List.length_nil]; omega) ?_)
      intro v' w5 happ
      have hl : ((List.range n).map z).length = n := by simp
      have hX := Has.moreInts0 (l' := (List.range n).map z) HM.out (by
        rw [hl]
        simpa using happ)
      have HX := Lib.hid hX
      clear happ hX
      go_wp2_with fail
      go_ret
      exact ⟨_, rfl, HX.out⟩
    · obtain rfl : n = 0 := by omega
      have hnil := not_nil a 0 cap w
      clear hc h0
      go_enter Tryd.func31, Tryd.ntmps31
      go_wp2_with (at_builtin; refine wpList_append_zero rfl (.tmp 5) (.tmp 6) 22 rfl _ _ _ rfl rfl (append_none _ _ _ _) ?_)
      go_wp2_with fail
      go_ret
      exact ⟨_, rfl, HM.out⟩

set_option maxHeartbeats 2000000 in
set_option maxRecDepth 100000 in
theorem begin_sweep (w : World) (sp : Option Addr) (p : Option Addr) (n cap : Nat) (z : Nat → Int) (h : InRow w p n z) (hn : n ≤ 140737488351232 / 8) (mark : Int) :
    Calls Tryd.prog 10 #[.pointer sp, .slice p n cap, .int .i64 mark] w fun e w' => ∃ ob nv, e = .returned (.pointer (some ⟨ob, 0, none⟩)) ∧ Has [] w w' ((Part.ints nv ((List.range n).map z)).sep (.blk ob 6 66 (opF (.pointer sp) nv mark (.func (.func 32) #[.pointer (some ⟨ob, 0, none⟩)] #[]) 0 false))) := by
  have HC := Lib.hid (clone_walk w p n cap z h hn)
  clear h
  go_enter Tryd.func10, Tryd.ntmps10
  go_wp2_with fail
  refine HC.out.mono ?_
  rintro e w2 ⟨nv, rfl, hX⟩
  obtain ⟨np, nc, hnv⟩ := ap_ints hX
  have hfin := hX.beside (Has.madeBlk #[.pointer sp, nv, .int .i64 mark, .func (.func 32) #[.pointer (some ⟨w2.heap.size, 0, none⟩)] #[], .int .i64 0, .bool false] 66 (opF (.pointer sp) nv mark (.func (.func 32) #[.pointer (some ⟨w2.heap.size, 0, none⟩)] #[]) 0 false) 6 rfl (fun i hi => match i, hi with | 0, _ => rfl | 1, _ => rfl | 2, _ => rfl | 3, _ => rfl | 4, _ => rfl | 5, _ => rfl))
  subst hnv
  simp only [List.length_map, List.length_range] at hfin
  have HF := Lib.hid hfin
  clear hX hfin
  go_wp2_with fail
  go_ret
  exact ⟨w2.heap.size, .slice np n nc, rfl, HF.out⟩
end Go.Proofs.YtbodobdllchmgaaDoor
