/- Sums of words, whichever way round. Nothing is claimed of a program here. -/
import Derived.Laws.Bits64b
import Derived.WalkKit
namespace Go.Proofs.YtngmimhpeeahoaaDoor
open Go Go.RowKit

/-- The sum of words, wrapped. -/
def sum64 (l : List Int) : Int := l.foldl (fun s x => IntKind.u64.wrap (s + x)) 0

theorem foldl_sum (l : List Int) : ∀ s : Int, 0 ≤ s → s < 18446744073709551616 → l.foldl (fun s x => IntKind.u64.wrap (s + x)) s = (s + l.sum) % 18446744073709551616 := by
  induction l with
  | nil => intro s h0 h1; simp; omega
  | cons x l ih =>
    intro s h0 h1
    rw [List.foldl_cons, ih _ (by rw [IntKind.wrap_u64]; omega) (by rw [IntKind.wrap_u64]; omega), IntKind.wrap_u64, List.sum_cons]
    omega

theorem sum64_eq (l : List Int) : sum64 l = l.sum % 18446744073709551616 := by
  unfold sum64
  rw [foldl_sum l 0 (by omega) (by omega), Int.zero_add]

theorem sum_reverse (l : List Int) : l.reverse.sum = l.sum := by
  induction l with
  | nil => rfl
  | cons x l ih => rw [List.reverse_cons, List.sum_append, ih]; simp; omega

theorem sum64_reverse (l : List Int) : sum64 l.reverse = sum64 l := by
  rw [sum64_eq, sum64_eq, sum_reverse]

theorem sum64_snoc (l : List Int) (x : Int) : sum64 (l ++ [x]) = IntKind.u64.wrap (sum64 l + x) := by
  unfold sum64; rw [List.foldl_append]; rfl

theorem sum64_take (l : List Int) (i : Nat) (h : i < l.length) : sum64 (l.take (i + 1)) = IntKind.u64.wrap (sum64 (l.take i) + l.getD i 0) := by
  rw [List.take_succ_eq_append_getElem h, sum64_snoc]
  simp [h]

theorem sum64_back (l : List Int) (i : Nat) (h : i < l.length) : sum64 (l.reverse.take (i + 1)) = IntKind.u64.wrap (sum64 (l.reverse.take i) + l.getD (l.length - 1 - i) 0) := by
  rw [sum64_take l.reverse i (by simpa using h)]
  congr 2
  have h2 : l.length - 1 - i < l.length := by omega
  rw [List.getD_eq_getElem?_getD, List.getD_eq_getElem?_getD, List.getElem?_reverse h]
end Go.Proofs.YtngmimhpeeahoaaDoor
