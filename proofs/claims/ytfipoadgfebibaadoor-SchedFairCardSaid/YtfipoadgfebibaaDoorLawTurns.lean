/- The walk of SchedTurns: true at all numbers and picks, and nothing that was there has changed. -/
import Derived.Test.YtfipoadgfebibaaDoorPTurns
import Derived.Test.YtfipoadgfebibaaDoorShown
namespace Go.Proofs.YtfipoadgfebibaaDoor
open Go Go.RowKit
set_option linter.unusedVariables false

theorem turns_nats {a b : Int} {m : Nat} (h : turnsOk a b m) : ∃ n W T : Nat, a = n ∧ b = W ∧ 1 ≤ n ∧ n ≤ 16 ∧ W = n + T ∧ n ≤ T ∧ W ≤ 1000 ∧ m ≤ 65536 := by
  obtain ⟨h1, h2, h3, h4, h5⟩ := h
  exact ⟨a.toNat, b.toNat, b.toNat - a.toNat, by omega, by omega, by omega, by omega, by omega, by omega, by omega, h5⟩

theorem Has.intsAt {o : List Nat} {w0 w : World} {v : Value} {l : List Int} (h : Has o w0 w (.ints v l)) : RowAt w v l.length (fun i => .int .i64 (l.getD i 0)) :=
  h.rowAt _ fun i hi => by rw [List.getElem?_map, List.getD_eq_getElem?_getD, List.getElem?_eq_getElem hi]; rfl

theorem nilRow7 (w : World) (f : Nat → Value) : RowAt w (.slice none 0 0) 0 f := ⟨none, 0, rfl, fun h => by omega⟩

set_option maxHeartbeats 4000000 in
set_option maxRecDepth 100000 in
theorem turns_law (w : World) (hT : TabAt w) (a b : Int) (m : Nat) (z : Nat → Int) (q : Option Addr) (qcap : Nat) (hp : PicksAt w (.slice q m qcap) m z) (hm : m ≤ 140737488351232) :
    Calls Tryd.prog 6 #[.int .i64 a, .int .i64 b, .slice q m qcap] w fun e w' => e = .returned (.bool true) ∧ Kept [] w w' := by
  have HP := Lib.hid hp
  have HT := Lib.hid hT
  clear hp hT
  by_cases hok : turnsOk a b m
  · obtain ⟨n, W, T, rfl, rfl, hn, hn16, hW, hT, hW1, hm6⟩ := turns_nats hok
    have HW := Lib.hid hW
    clear hW hok
    go_enter Tryd.func6, Tryd.ntmps6
    go_wp2_with fail
    refine (shown_calls w HT.out).mono ?_
    rintro e w1 ⟨rfl, hk⟩
    have HK := Lib.hid hk
    clear hk
    go_wp2_with fail
    refine (pturns_yes w1 n W T m z q qcap (HP.out.kept HK.out (by simp)) hn hn16 HW.out hT hW1 hm6).mono ?_
    rintro e w2 ⟨v1, rfl, hA⟩
    have HA := Lib.hid hA
    have HK2 := Lib.hid (HK.out.tr hA.keeps)
    clear hA
    go_wp2_with fail
    refine (rturns_yes w2 n W T m z q qcap (HP.out.kept HK2.out (by simp)) hn hn16 HW.out hT hW1 hm6).mono ?_
    rintro e w3 ⟨v2, rfl, hB⟩
    have HK3 := Lib.hid (HK2.out.tr hB.keeps)
    have HRA := Lib.hid (HA.out.intsAt.kept hB.keeps (by simp))
    have HRB := Lib.hid hB.intsAt
    have hsm := hB.rowSmall
    clear hB HA
    go_wp2_with fail
    refine (ints_same w3 _ _ _ _ HRA.out HRB.out hsm).mono ?_
    rintro e w4 ⟨rfl, q4, rfl⟩
    go_wp2_with fail
    go_ret
    exact ⟨rfl, HK3.out.drewN _⟩
  · have HOK := Lib.hid hok
    clear hok
    go_enter Tryd.func6, Tryd.ntmps6
    go_wp2_with fail
    refine (shown_calls w HT.out).mono ?_
    rintro e w1 ⟨rfl, hk⟩
    have HK := Lib.hid hk
    clear hk
    go_wp2_with fail
    refine (pturns_no w1 a b m q qcap hm HOK.out).mono ?_
    rintro e w2 ⟨rfl, rfl⟩
    go_wp2_with fail
    refine (rturns_no w2 a b m q qcap hm HOK.out).mono ?_
    rintro e w3 ⟨rfl, rfl⟩
    go_wp2_with fail
    refine (ints_same w3 _ _ 0 (fun _ => 0) (nilRow7 _ _) (nilRow7 _ _) (Nat.zero_le _)).mono ?_
    rintro e w4 ⟨rfl, q4, rfl⟩
    go_wp2_with fail
    go_ret
    exact ⟨rfl, HK.out.drewN _⟩
end Go.Proofs.YtfipoadgfebibaaDoor
