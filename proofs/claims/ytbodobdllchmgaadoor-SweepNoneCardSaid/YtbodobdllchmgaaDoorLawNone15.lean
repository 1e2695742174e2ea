/- The walk of SweepNone: true at all numbers, and nothing that was there has changed. -/
import Derived.Test.YtbodobdllchmgaaDoorSweepShown
namespace Go.Proofs.YtbodobdllchmgaaDoor
open Go Go.RowKit
set_option linter.unusedVariables false

set_option maxHeartbeats 2000000 in
set_option maxRecDepth 100000 in
theorem none15_law (w : World) (hT : TabAt w) (p : Option Addr) (n cap : Nat) (z : Nat → Int) (hin : InRow w p n z) (hn : n ≤ 140737488351232 / 8) (mark : Int) :
    Calls Tryd.prog 3 #[.slice p n cap, .int .i64 mark] w fun e w' => e = .returned (.bool true) ∧ Kept [] w w' := by
  have HT := Lib.hid hT
  have HIN := Lib.hid hin
  clear hT hin
  go_enter Tryd.func3, Tryd.ntmps3
  go_wp2_with fail
  refine (shown_calls w HT.out).mono ?_
  rintro e w1 ⟨rfl, hk⟩
  have HK := Lib.hid hk
  have hin1 : InRow w1 p n z := by
    refine ⟨HIN.out.1, fun h => ?_⟩
    obtain ⟨b, off, e, hb, hc⟩ := HIN.out.2 h
    exact ⟨b, off, e, Nat.lt_of_lt_of_le hb hk.size, fun i hi => hk.cell (hc i hi) (by simp)⟩
  have HB := Lib.hid (begin_sweep w1 none p n cap z hin1 hn mark)
  clear hk hin1
  go_wp2_with fail
  refine HB.out.mono ?_
  rintro e w2 ⟨ob, nv, rfl, hX⟩
  have hc0 : w2.cell? ⟨ob, 0, none⟩ = some (.pointer none) := by
    obtain ⟨_, h1, _⟩ := hX.right
    exact (h1.blkAt (i := 0) (by omega)).1
  have HS := Lib.hid (step_none w2 hc0)
  have HG := Lib.hid (gone_none w2 hc0)
  have HSN := Lib.hid (step_nil w2)
  have HGN := Lib.hid (gone_nil w2)
  have HK2 := Lib.hid (HK.out.tr (hX.keeps))
  clear hX HB hc0
  go_wp2_with fail
  refine HS.out.mono ?_
  rintro e w3 ⟨rfl, rfl⟩
  go_wp2_with fail
  refine HSN.out.mono ?_
  rintro e w3 ⟨rfl, rfl⟩
  go_wp2_with fail
  refine HG.out.mono ?_
  rintro e w3 ⟨rfl, rfl⟩
  go_wp2_with fail
  refine HGN.out.mono ?_
  rintro e w3 ⟨rfl, rfl⟩
  go_wp2_with fail
  go_ret
  exact ⟨rfl, HK2.out⟩
end Go.Proofs.YtbodobdllchmgaaDoor
