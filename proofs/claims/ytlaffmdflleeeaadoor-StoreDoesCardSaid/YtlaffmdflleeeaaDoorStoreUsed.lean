/- How many cells a store's arena has taken; a version and a push at any right number. -/
import Derived.Test.YtlaffmdflleeeaaDoorStoreVer
import Derived.Test.YtlaffmdflleeeaaDoorStoreVerN
import Derived.Test.YtlaffmdflleeeaaDoorStorePush
namespace Go.Proofs.YtlaffmdflleeeaaDoor
open Go Go.RowKit
set_option linter.unusedVariables false

variable {o : List Nat} {w0 w : World} {b : Nat} {x : StIx} {A : ASt}

theorem used_at (h : Has o w0 w (.store b A)) :
    Calls Tryd.prog 24 #[.pointer (some ⟨A.ab, 0, none⟩)] w fun e w' => e = .returned (.int .i64 (A.used : Nat)) ∧ w' = w := by
  obtain ⟨x, hr, h⟩ := h.stOpen
  obtain ⟨o1, h1, _⟩ := h.left
  obtain ⟨o2, h2, _⟩ := h1.right
  obtain ⟨hab, h2⟩ := h2.whenOut
  rw [← hab, ← hr.count]
  refine (own_used (Has.own h2)).mono ?_
  rintro e w' ⟨rfl, rfl⟩
  exact ⟨rfl, rfl⟩

theorem steps_at (h : Has o w0 w (.store b A)) :
    Calls Tryd.prog 32 #[.pointer (some ⟨A.ab, 0, none⟩)] w fun e w' => e = .returned (.int .i64 A.steps) ∧ w' = w := by
  obtain ⟨x, hr, h⟩ := h.stOpen
  obtain ⟨o1, h1, _⟩ := h.left
  obtain ⟨o2, h2, _⟩ := h1.right
  obtain ⟨hab, h2⟩ := h2.whenOut
  rw [← hab, ← hr.steps]
  refine (own_steps (Has.own h2)).mono ?_
  rintro e w' ⟨rfl, rfl⟩
  exact ⟨rfl, rfl⟩

/-- A number that a version's next may have: none, or a version that is there. -/
def ASt.nxOk (A : ASt) (n : Int) : Prop := n = 0 ∨ ∃ j : Nat, n = (j : Int) + 1 ∧ A.ver j = true

theorem version_ok {val : ByteArray} {bg nx : Int} (hnx : A.nxOk nx) (h : Has o w0 w (.store b A)) (hT : TabAt w0) (ho : 0 ∉ o) (hfree : A.used + 3 ≤ A.size) (hval : val.size ≤ 64) (hb0 : 0 ≤ bg) (hb1 : bg < 18446744073709551616) (hbg : wBegins bg = true) (hnV : A.nV ≤ 1000000000) :
    Calls Tryd.prog 12 #[.pointer (some ⟨b, 0, none⟩), .string val, .int .u64 bg, .int .i64 nx] w fun e w' => e = .returned (.tuple #[.int .i64 ((A.nV : Int) + 1), .int .i64 0]) ∧ ∃ st, Has o w0 w' (.store b (A.addVer st val bg nx)) := by
  rcases hnx with rfl | ⟨j, rfl, hj⟩
  · exact version_first h hT ho hfree hval hb0 hb1 hbg hnV
  · exact version_next hj h hT ho hfree hval hb0 hb1 hbg hnV

theorem push_ok (h : Has o w0 w (.store b A)) (i j : Nat) (nx : Int) (hnx : A.nxOk nx) (hl : A.at_ (.head i) = some nx) (hj : A.ver j = true) (hV : A.nV ≤ 1000000000) :
    Calls Tryd.prog 17 #[.pointer (some ⟨b, 0, none⟩), .int .i64 ((i : Int) + 1), .int .i64 nx, .int .i64 ((j : Int) + 1)] w fun e w' => e = .returned (.tuple #[.bool true, .int .i64 0]) ∧ Has o w0 w' (.store b (A.step.set (.head i) ((j : Int) + 1))) := by
  rcases hnx with rfl | ⟨k, rfl, hk⟩
  · exact push_first h i j hl hj hV
  · exact push_over h i j k hk hl hj hV
end Go.Proofs.YtlaffmdflleeeaaDoor
