/- Programs that are read: a slice of slices of operations; the numbers of picks. Plain lemmas: nothing is claimed of a program here. -/
import Derived.Test.YtfipoadgfebibaaDoorSep
namespace Go.Proofs.YtfipoadgfebibaaDoor
open Go Go.RowKit
set_option linter.unusedVariables false

/-- An operation's numbers. -/
structure OpV where
  k : Int
  c : Int
  x : Int
  y : Int

def OpV.val (o : OpV) : Value := .agg #[.int .i64 o.k, .int .i64 o.c, .int .u64 o.x, .int .u64 o.y]

/-- v is a slice of n operations that is only read. -/
def OpsAt (w : World) (v : Value) (n : Nat) (f : Nat → OpV) : Prop :=
  ∃ p cap, v = .slice p n cap ∧ n ≤ 9223372036854775807 ∧ (∀ i, i < n → -9223372036854775808 ≤ (f i).c ∧ (f i).c < 9223372036854775808) ∧
    (0 < n → ∃ b off, p = some ⟨b, off, none⟩ ∧ b < w.heap.size ∧ ∀ i, i < n →
      w.cell? ⟨b, off + i * 4, none⟩ = some (.int .i64 (f i).k) ∧ w.cell? ⟨b, off + i * 4 + 1, none⟩ = some (.int .i64 (f i).c) ∧ w.cell? ⟨b, off + i * 4 + 2, none⟩ = some (.int .u64 (f i).x) ∧ w.cell? ⟨b, off + i * 4 + 3, none⟩ = some (.int .u64 (f i).y))

/-- v is a slice of n programs that is only read. -/
def ProgsAt (w : World) (v : Value) (n : Nat) (L : Nat → Nat) (vs : Nat → Value) (P : Nat → Nat → OpV) : Prop :=
  ∃ p cap, v = .slice p n cap ∧ n ≤ 9223372036854775807 ∧ (∀ i, i < n → OpsAt w (vs i) (L i) (P i)) ∧
    (0 < n → ∃ b off, p = some ⟨b, off, none⟩ ∧ b < w.heap.size ∧ ∀ i, i < n → w.cell? ⟨b, off + i, none⟩ = some (vs i))

/-- v is a slice of n numbers that is only read. -/
def PicksAt (w : World) (v : Value) (n : Nat) (z : Nat → Int) : Prop :=
  ∃ p cap, v = .slice p n cap ∧ n ≤ 9223372036854775807 ∧
    (0 < n → ∃ b off, p = some ⟨b, off, none⟩ ∧ b < w.heap.size ∧ ∀ i, i < n → w.cell? ⟨b, off + i, none⟩ = some (.int .i64 (z i)))

theorem OpsAt.kept {own : List Nat} {w w' : World} {v : Value} {n : Nat} {f : Nat → OpV} (h : OpsAt w v n f) (k : Kept own w w') (hown : ∀ x ∈ own, w.heap.size ≤ x) : OpsAt w' v n f := by
  obtain ⟨p, cap, rfl, h1, h2, h3⟩ := h
  refine ⟨p, cap, rfl, h1, h2, fun hp => ?_⟩
  obtain ⟨b, off, rfl, hb, hc⟩ := h3 hp
  have hn : b ∉ own := fun m => by have := hown b m; omega
  refine ⟨b, off, rfl, Nat.lt_of_lt_of_le hb k.size, fun i hi => ?_⟩
  obtain ⟨c0, c1, c2, c3⟩ := hc i hi
  exact ⟨k.cell c0 hn, k.cell c1 hn, k.cell c2 hn, k.cell c3 hn⟩

theorem ProgsAt.kept {own : List Nat} {w w' : World} {v : Value} {n : Nat} {L vs P} (h : ProgsAt w v n L vs P) (k : Kept own w w') (hown : ∀ x ∈ own, w.heap.size ≤ x) : ProgsAt w' v n L vs P := by
  obtain ⟨p, cap, rfl, h1, h2, h3⟩ := h
  refine ⟨p, cap, rfl, h1, fun i hi => (h2 i hi).kept k hown, fun hp => ?_⟩
  obtain ⟨b, off, rfl, hb, hc⟩ := h3 hp
  exact ⟨b, off, rfl, Nat.lt_of_lt_of_le hb k.size, fun i hi => k.cell (hc i hi) fun m => by have := hown b m; omega⟩

theorem PicksAt.kept {own : List Nat} {w w' : World} {v : Value} {n : Nat} {z : Nat → Int} (h : PicksAt w v n z) (k : Kept own w w') (hown : ∀ x ∈ own, w.heap.size ≤ x) : PicksAt w' v n z := by
  obtain ⟨p, cap, rfl, h1, h3⟩ := h
  refine ⟨p, cap, rfl, h1, fun hp => ?_⟩
  obtain ⟨b, off, rfl, hb, hc⟩ := h3 hp
  exact ⟨b, off, rfl, Nat.lt_of_lt_of_le hb k.size, fun i hi => k.cell (hc i hi) fun m => by have := hown b m; omega⟩

/-- May an operation be done in an arena of that size? -/
def opOk (size : Int) (o : OpV) : Prop := 1 ≤ o.k ∧ o.k ≤ 4 ∧ 0 ≤ o.c ∧ o.c < size
def progOk (size : Int) (n : Nat) (f : Nat → OpV) : Prop := n ≤ 65536 ∧ ∀ i, i < n → opOk size (f i)
/-- May programs be run? -/
def runOk (size : Int) (n : Nat) (L : Nat → Nat) (P : Nat → Nat → OpV) : Prop := 1 ≤ size ∧ size ≤ 65536 ∧ n ≤ 16 ∧ ∀ i, i < n → progOk size (L i) (P i)

end Go.Proofs.YtfipoadgfebibaaDoor
