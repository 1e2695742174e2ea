/- Words on memory for the proofs of this seat: a block of plain cells by a function, what a call keeps, a block that a slice owns. Plain lemmas: nothing is claimed of a program here.
An arena of cells in memory: what its block and its row of words hold. Nothing is claimed of a program here.
The walks of an arena's 'there' and 'step': what each answers, at every arena and every number.
The walks of an arena's step, Load, Store, CAS, Add: at every arena, every cell, every word.
The walk of an arena's Free.
What a store into an arena's struct or into its row of words leaves; the arithmetic of its bits. Nothing is claimed of a program here.
An append to a slice of the call's own: the row lies where it lay, or in a new block. Nothing is claimed of a program here.
The walk of an arena's Alloc. -/
import Derived.WalkKit
import Derived.Deep.QuietTactic
import Derived.BigQuiet
import Derived.Lib.Hide
import Derived.Below
import Derived.Laws.AppendOwn
import Derived.Laws.Bits64b
import Derived.Test.YtmldighidbfhhaaDoorProg
import Derived.Lib.TrailingZeros
import Derived.Deep.LoopGhost
namespace Go.Proofs.YtmldighidbfhhaaDoor
open Go Go.RowKit
set_option linter.unusedVariables false

/-- Block b is a row of n plain cells, cell i holding f i. -/
def Blk (w : World) (b n : Nat) (T : TypeId) (f : Nat → Value) : Prop :=
  ∃ cs : Array Value, w.heap[b]? = some (.cells cs T (0, 0)) ∧ cs.size = n ∧ ∀ i, i < n → cs[i]? = some (f i)

theorem Blk.lt {w : World} {b n : Nat} {T : TypeId} {f : Nat → Value} (h : Blk w b n T f) : b < w.heap.size := by
  obtain ⟨cs, h, _⟩ := h
  exact (Array.getElem?_eq_some_iff.1 h).1

theorem Blk.cell {w : World} {b n : Nat} {T : TypeId} {f : Nat → Value} (h : Blk w b n T f) {i : Nat} (hi : i < n) : w.cell? ⟨b, i, none⟩ = some (f i) := by
  obtain ⟨cs, h, _, hc⟩ := h
  simp only [World.cell?, h]
  exact hc i hi

theorem Blk.free {w : World} {b n : Nat} {T : TypeId} {f : Nat → Value} (h : Blk w b n T f) (i : Nat) : w.frozen? ⟨b, i, none⟩ = false := by
  obtain ⟨cs, h, _, hc⟩ := h
  simp [World.frozen?, h]

def upd (f : Nat → Value) (i : Nat) (v : Value) : Nat → Value := fun j => if j = i then v else f j

theorem Blk.set {w : World} {b n : Nat} {T : TypeId} {f : Nat → Value} (h : Blk w b n T f) (i : Nat) (v : Value) : Blk (w.setCell ⟨b, i, none⟩ v) b n T (upd f i v) := by
  obtain ⟨cs, h, hn, hc⟩ := h
  refine ⟨cs.setIfInBounds i v, ?_, by simpa using hn, ?_⟩
  · simp [World.setCell, Array.getElem?_modify, h]
  · intro j hj
    unfold upd
    by_cases e : j = i
    · subst e; rw [if_pos rfl, Array.getElem?_setIfInBounds_self]; rw [if_pos (by omega)]
    · rw [if_neg e, Array.getElem?_setIfInBounds_ne (by omega)]; exact hc j hj

theorem Blk.congr {w : World} {b n : Nat} {T : TypeId} {f g : Nat → Value} (h : Blk w b n T f) (e : ∀ i, i < n → f i = g i) : Blk w b n T g := by
  obtain ⟨cs, h, hn, hc⟩ := h
  exact ⟨cs, h, hn, fun i hi => by rw [hc i hi, e i hi]⟩

theorem Blk.of_heap {w w' : World} {b n : Nat} {T : TypeId} {f : Nat → Value} (h : Blk w b n T f) (e : w'.heap[b]? = w.heap[b]?) : Blk w' b n T f := by
  obtain ⟨cs, h, hn, hc⟩ := h
  exact ⟨cs, by rw [e, h], hn, hc⟩

theorem Blk.other {w : World} {b n : Nat} {T : TypeId} {f : Nat → Value} (h : Blk w b n T f) {a : Addr} (v : Value) (ne : a.block ≠ b) : Blk (w.setCell a v) b n T f := by
  refine h.of_heap ?_
  simp [World.setCell, Array.getElem?_modify, ne]

theorem Blk.alloc {w : World} {b n : Nat} {T : TypeId} {f : Nat → Value} (h : Blk w b n T f) (o : Obj) : Blk (w.alloc o) b n T f :=
  h.of_heap (Below.heap_alloc w o b h.lt)

theorem Blk.drewN {w : World} {b n : Nat} {T : TypeId} {f : Nat → Value} (h : Blk w b n T f) (k : Nat) : Blk (w.drewN k) b n T f :=
  h.of_heap rfl

/-- What stands in the block that was laid last. -/
theorem Blk.made (w : World) (cs : Array Value) (T : TypeId) (f : Nat → Value) (n : Nat) (hn : cs.size = n) (hf : ∀ i, i < n → cs[i]? = some (f i)) : Blk (w.alloc (.cells cs T)) w.heap.size n T f :=
  ⟨cs, heap_alloc_new w _, hn, hf⟩

/-- All blocks of the first world but those named stand as they stood. -/
structure Kept (own : List Nat) (w w' : World) : Prop where
  os : w'.os = w.os
  tape : w'.tape = w.tape
  output : w'.output = w.output
  size : w.heap.size ≤ w'.heap.size
  block : ∀ k, k < w.heap.size → k ∉ own → w'.heap[k]? = w.heap[k]?

theorem Kept.refl (own : List Nat) (w : World) : Kept own w w := ⟨rfl, rfl, rfl, Nat.le_refl _, fun _ _ _ => rfl⟩

theorem Kept.mono {own own' : List Nat} {w w' : World} (h : Kept own w w') (s : ∀ k, k < w.heap.size → k ∈ own → k ∈ own') : Kept own' w w' :=
  ⟨h.os, h.tape, h.output, h.size, fun k hk hn => h.block k hk fun m => hn (s k hk m)⟩

/-- The second call may own blocks that the first one has laid. -/
theorem Kept.trans {own own' : List Nat} {w w1 w2 : World} (h : Kept own w w1) (h' : Kept own' w1 w2) (s : ∀ k, k < w.heap.size → k ∈ own' → k ∈ own) : Kept own w w2 :=
  ⟨h'.os.trans h.os, h'.tape.trans h.tape, h'.output.trans h.output, Nat.le_trans h.size h'.size, fun k hk hn =>
    (h'.block k (Nat.lt_of_lt_of_le hk h.size) fun m => hn (s k hk m)).trans (h.block k hk hn)⟩

theorem Kept.tr {own : List Nat} {w w1 w2 : World} (h : Kept own w w1) (h' : Kept own w1 w2) : Kept own w w2 := h.trans h' fun _ _ m => m

theorem Kept.drewN {own : List Nat} {w w' : World} (h : Kept own w w') (n : Nat) : Kept own w (w'.drewN n) :=
  ⟨h.os, h.tape, h.output, h.size, h.block⟩

theorem Kept.drew {own : List Nat} {w w' : World} (h : Kept own w w') : Kept own w w'.drew :=
  ⟨h.os, h.tape, h.output, h.size, h.block⟩

theorem Kept.set {own : List Nat} {w w' : World} (h : Kept own w w') {a : Addr} (v : Value) (m : a.block ∈ own) : Kept own w (w'.setCell a v) := by
  refine h.tr ⟨rfl, rfl, rfl, by simp, fun k _ hn => ?_⟩
  exact Below.heap_setCell w' a v k fun e => hn (e ▸ m)

/-- A store into a block that was not there at first. -/
theorem Kept.setNew {own : List Nat} {w w' : World} (h : Kept own w w') {a : Addr} (v : Value) (m : w.heap.size ≤ a.block) : Kept own w (w'.setCell a v) := by
  refine h.trans (own' := [a.block]) ⟨rfl, rfl, rfl, by simp, fun k _ hn => ?_⟩ ?_
  · exact Below.heap_setCell w' a v k fun e => hn (by simp [e])
  · intro k hk m'; simp at m'; omega

theorem Kept.alloc {own : List Nat} {w w' : World} (h : Kept own w w') (o : Obj) : Kept own w (w'.alloc o) :=
  h.tr ⟨rfl, rfl, rfl, by simp, fun k hk _ => Below.heap_alloc w' o k hk⟩

theorem Kept.grown {own : List Nat} {w w1 w2 : World} {row : Option Nat} (h : Kept own w w1) (g : w1.grownBy w2 row) (s : ∀ k, k < w.heap.size → row = some k → k ∈ own) : Kept own w w2 :=
  ⟨g.os.trans h.os, g.tape.trans h.tape, g.output.trans h.output, Nat.le_trans h.size g.size, fun k hk hn =>
    (g.block k (Nat.lt_of_lt_of_le hk h.size) fun e => hn (s k hk e.symm)).trans (h.block k hk hn)⟩

theorem Kept.below {own : List Nat} {w w' : World} {B : Nat} (h : Kept own w w') (hB : B ≤ w.heap.size) (s : ∀ k ∈ own, B ≤ k) : Below B w w' :=
  ⟨h.os, h.tape, h.output, h.size, fun k hk => h.block k (by omega) fun m => by have := s k m; omega⟩

theorem Kept.of_below {w w' : World} (h : Below w.heap.size w w') : Kept [] w w' :=
  ⟨h.os, h.tape, h.output, h.size, fun k hk _ => h.block k hk⟩

theorem Kept.cell {own : List Nat} {w w' : World} (h : Kept own w w') {b i : Nat} {v : Value} (hc : w.cell? ⟨b, i, none⟩ = some v) (hn : b ∉ own) : w'.cell? ⟨b, i, none⟩ = some v := by
  have hb : b < w.heap.size := by
    simp only [World.cell?] at hc
    split at hc
    · rename_i c _ _ hh
      exact (Array.getElem?_eq_some_iff.1 hh).1
    · cases hc
  rw [World.cell?_of_block (w := w) (h.block b hb hn)]
  exact hc

theorem Kept.frozen {own : List Nat} {w w' : World} (h : Kept own w w') {b i : Nat} (hb : b < w.heap.size) (hn : b ∉ own) : w'.frozen? ⟨b, i, none⟩ = w.frozen? ⟨b, i, none⟩ :=
  World.frozen?_of_block (w := w) (h.block b hb hn)

theorem Kept.blk {own : List Nat} {w w' : World} (h : Kept own w w') {b n : Nat} {T : TypeId} {f : Nat → Value} (hb : Blk w b n T f) (hn : b ∉ own) : Blk w' b n T f :=
  hb.of_heap (h.block b hb.lt hn)

/-- The blocks that a slice value owns. -/
def rowsOf (v : Value) : List Nat := match v.ownBlock with | some k => [k] | none => []

theorem mem_rowsOf {v : Value} {k : Nat} : k ∈ rowsOf v ↔ v.ownBlock = some k := by
  unfold rowsOf
  cases v.ownBlock with
  | none => simp
  | some j => simp [eq_comm]

theorem Kept.row {own : List Nat} {w w' : World} (h : Kept own w w') {base n size : Nat} {e : TypeId} {v : Value} {xs : List Value} (r : w.ownsRow base e size v n xs) (hn : ∀ k, v.ownBlock = some k → k ∉ own) : w'.ownsRow base e size v n xs := by
  obtain ⟨hl, r⟩ := r
  refine ⟨hl, ?_⟩
  rcases r with r | ⟨g, cap, cur, rfl, hb, hg, r⟩
  · exact .inl r
  · refine .inr ⟨g, cap, cur, rfl, hb, ?_, r⟩
    rw [h.block g (Array.getElem?_eq_some_iff.1 hg).1 (hn g rfl)]
    exact hg

end Go.Proofs.YtmldighidbfhhaaDoor
namespace Go.Proofs.YtmldighidbfhhaaDoor
open Go Go.RowKit
set_option linter.unusedVariables false

/-- The cells of an arena's struct. -/
def arF (size : Int) (hv : Value) (ws : Nat → Nat) (low used steps : Int) : Nat → Value := fun i =>
  if i = 0 then .int .i64 size else if i = 1 then hv else if i < 1026 then .int .u64 (ws (i - 2)) else if i = 1026 then .int .i64 low else if i = 1027 then .int .i64 used else .int .i64 steps

/-- An arena lies at block b: hs: what its cells have (those that were ever taken), ws: a bit a cell. -/
structure ArRep (w : World) (b : Nat) (hv : Value) (size : Int) (hs : List Int) (ws : Nat → Nat) (low used steps : Int) : Prop where
  blk : Blk w b 1029 88 (arF size hv ws low used steps)
  row : w.ownsRow 0 67 1 hv hs.length (hs.map (Value.int .u64))
  ne : hv.ownBlock ≠ some b
  word : ∀ i, ws i < 18446744073709551616
  few : hs.length ≤ 65536

/-- A cell is taken. -/
def takenAt (hs : List Int) (ws : Nat → Nat) (c : Int) : Bool := decide (0 ≤ c) && decide (c < hs.length) && (ws (c.toNat / 64)).testBit (c.toNat % 64)

theorem ArRep.c0 {w b hv size hs ws low used steps} (h : ArRep w b hv size hs ws low used steps) : w.cell? ⟨b, 0, none⟩ = some (.int .i64 size) := h.blk.cell (by omega)
theorem ArRep.c1 {w b hv size hs ws low used steps} (h : ArRep w b hv size hs ws low used steps) : w.cell? ⟨b, 1, none⟩ = some hv := h.blk.cell (by omega)
theorem ArRep.c2 {w b hv size hs ws low used steps} (h : ArRep w b hv size hs ws low used steps) {i : Nat} (hi : i < 1024) : w.cell? ⟨b, 2 + i, none⟩ = some (.int .u64 (ws i)) := by
  have := h.blk.cell (i := 2 + i) (by omega)
  rw [this]; unfold arF
  rw [if_neg (by omega), if_neg (by omega), if_pos (by omega)]
  rw [show 2 + i - 2 = i from by omega]
theorem ArRep.c3 {w b hv size hs ws low used steps} (h : ArRep w b hv size hs ws low used steps) : w.cell? ⟨b, 1026, none⟩ = some (.int .i64 low) := h.blk.cell (by omega)
theorem ArRep.c4 {w b hv size hs ws low used steps} (h : ArRep w b hv size hs ws low used steps) : w.cell? ⟨b, 1027, none⟩ = some (.int .i64 used) := h.blk.cell (by omega)
theorem ArRep.c5 {w b hv size hs ws low used steps} (h : ArRep w b hv size hs ws low used steps) : w.cell? ⟨b, 1028, none⟩ = some (.int .i64 steps) := h.blk.cell (by omega)

/-- The row's value, spelt out. -/
theorem ArRep.val {w b hv size hs ws low used steps} (h : ArRep w b hv size hs ws low used steps) : (hv = .slice none 0 0 ∧ hs = []) ∨ ∃ g cap, hv = .slice (some ⟨g, 0, none⟩) hs.length cap ∧ hs.length ≤ cap ∧ cap ≤ maxLen ∧ g ≠ b ∧ g < w.heap.size ∧ ∀ i, i < hs.length → w.cell? ⟨g, i, none⟩ = some (.int .u64 (hs.getD i 0)) := by
  obtain ⟨hl, h1 | ⟨g, cap, cur, rfl, hb, hg, h2, h3, h4, h5⟩⟩ := h.row
  · exact .inl ⟨h1.1, by simpa using h1.2⟩
  · refine .inr ⟨g, cap, rfl, h2, h3, ?_, (Array.getElem?_eq_some_iff.1 hg).1, ?_⟩
    · intro e; exact h.ne (by simp [Value.ownBlock, e])
    · intro i hi
      simp only [World.cell?, hg]
      have : (cur.toList.take (hs.length * 1))[i]? = (hs.map (Value.int .u64))[i]? := by rw [h5]
      rw [List.getElem?_take_of_lt (by omega)] at this
      simp only [Array.getElem?_toList] at this
      show (if (none : Option _).isSome = true then none else cur[i]?) = _
      simp only [Option.isSome_none, Bool.false_eq_true, if_false, this, List.getElem?_map, List.getElem?_eq_getElem hi, Option.map_some, List.getD_eq_getElem?_getD, Option.getD_some]

theorem ArRep.rowFree {w b g n cap size hs ws low used steps} (h : ArRep w b (.slice (some ⟨g, 0, none⟩) n cap) size hs ws low used steps) (i : Nat) : w.frozen? ⟨g, i, none⟩ = false := by
  obtain ⟨_, h1 | ⟨g', cap', cur, hv', _, hg, _⟩⟩ := h.row
  · cases h1.1
  · cases hv'
    simp [World.frozen?, hg]

end Go.Proofs.YtmldighidbfhhaaDoor
namespace Go.Proofs.YtmldighidbfhhaaDoor
open Go Go.RowKit
set_option linter.unusedVariables false

theorem bit_test (x j : Nat) (hx : x < 18446744073709551616) : bits BinOp.and IntKind.u64 ((x : Int) / 2 ^ j) 1 = if x.testBit j then 1 else 0 := by
  have e : ((x : Int) / 2 ^ j) = ((x / 2 ^ j : Nat) : Int) := by simp
  have hlt : x / 2 ^ j < 18446744073709551616 := Nat.lt_of_le_of_lt (Nat.div_le_self _ _) hx
  rw [e]
  have := bits_and_u64_nat (x / 2 ^ j) 1 hlt (by omega)
  rw [Nat.and_one_is_mod] at this
  refine this.trans ?_
  rw [Nat.testBit_eq_decide_div_mod_eq]
  by_cases h : x / 2 ^ j % 2 = 1
  · simp [h]
  · have : x / 2 ^ j % 2 = 0 := by omega
    simp [this]

set_option maxHeartbeats 1000000 in
theorem there_neg {w b hv size hs ws low used steps} (h : ArRep w b hv size hs ws low used steps) (c : Int) (hc : c < 0) (hl : -9223372036854775808 ≤ c) :
    Calls Tryd.prog 43 #[.pointer (some ⟨b, 0, none⟩), .int .i64 c] w fun e w' => e = .returned (.int .i64 30) ∧ w = w' := by
  have h1 := h.c1
  clear h
  go_enter Tryd.func43, Tryd.ntmps43
  go_wp2
  go_ret
  exact ⟨rfl, rfl⟩

set_option maxHeartbeats 1000000 in
theorem there_nil (w : World) (b : Nat) (hc1 : w.cell? ⟨b, 1, none⟩ = some (.slice none 0 0)) (c : Int) (hc : 0 ≤ c) (hl : c < 9223372036854775808) :
    Calls Tryd.prog 43 #[.pointer (some ⟨b, 0, none⟩), .int .i64 c] w fun e w' => e = .returned (.int .i64 30) ∧ w = w' := by
  have h2 : ¬ (c < 0) := by omega
  have h3 : decide (c ≥ 0) = true := by simp; omega
  go_enter Tryd.func43, Tryd.ntmps43
  go_wp2
  go_ret
  exact ⟨rfl, rfl⟩

set_option maxHeartbeats 1000000 in
theorem there_past (w : World) (b : Nat) (a : Addr) (n cap : Nat) (hn : n ≤ 65536) (hc1 : w.cell? ⟨b, 1, none⟩ = some (.slice (some a) n cap)) (c : Int) (hc : (n : Int) ≤ c) (hl : c < 9223372036854775808) :
    Calls Tryd.prog 43 #[.pointer (some ⟨b, 0, none⟩), .int .i64 c] w fun e w' => e = .returned (.int .i64 30) ∧ w = w' := by
  have h2 : ¬ (c < 0) := by omega
  have h3 : decide (c ≥ (n : Int)) = true := by simp; omega
  go_enter Tryd.func43, Tryd.ntmps43
  go_wp2
  go_ret
  exact ⟨rfl, rfl⟩

set_option maxHeartbeats 1000000 in
set_option maxRecDepth 100000 in
theorem there_in (w : World) (b : Nat) (a : Addr) (n cap x : Nat) (hn : n ≤ 65536) (hc1 : w.cell? ⟨b, 1, none⟩ = some (.slice (some a) n cap)) (c : Nat) (hc : c < n)
    (hx : w.cell? ⟨b, 2 + c / 64, none⟩ = some (.int .u64 x)) (hx2 : x < 18446744073709551616) :
    Calls Tryd.prog 43 #[.pointer (some ⟨b, 0, none⟩), .int .i64 c] w fun e w' => e = .returned (.int .i64 (if x.testBit (c % 64) then 0 else 30)) ∧ w = w' := by
  have h2 : ¬ ((c : Int) < 0) := by omega
  have h3 : decide (n ≤ c) = false := by simp; omega
  have hb := bit_test x (c % 64) hx2
  clear hx2
  cases ht : x.testBit (c % 64)
  · rw [ht] at hb
    replace hb : bits BinOp.and IntKind.u64 ((x : Int) / 2 ^ (c % 64)) 1 = 0 := hb
    go_enter Tryd.func43, Tryd.ntmps43
    go_wp2
    go_ret
    exact ⟨rfl, rfl⟩
  · rw [ht] at hb
    replace hb : bits BinOp.and IntKind.u64 ((x : Int) / 2 ^ (c % 64)) 1 = 1 := hb
    go_enter Tryd.func43, Tryd.ntmps43
    go_wp2
    go_ret
    exact ⟨rfl, rfl⟩

/-- 'there': is a cell taken? -/
theorem there_calls {w b hv size hs ws low used steps} (h : ArRep w b hv size hs ws low used steps) (c : Int) (h0 : -9223372036854775808 ≤ c) (h1 : c < 9223372036854775808) :
    Calls Tryd.prog 43 #[.pointer (some ⟨b, 0, none⟩), .int .i64 c] w fun e w' => e = .returned (.int .i64 (if takenAt hs ws c then 0 else 30)) ∧ w = w' := by
  by_cases hn : c < 0
  · have : takenAt hs ws c = false := by unfold takenAt; simp; omega
    rw [this]
    exact there_neg h c hn h0
  have hc1 := h.c1
  rcases h.val with ⟨rfl, rfl⟩ | ⟨g, cap, rfl, hcap, hcap2, hne, hlt, hcells⟩
  · have : takenAt [] ws c = false := by unfold takenAt; simp; omega
    rw [this]
    exact there_nil w b hc1 c (by omega) h1
  · by_cases hp : (hs.length : Int) ≤ c
    · have : takenAt hs ws c = false := by unfold takenAt; simp; omega
      rw [this]
      exact there_past w b _ hs.length cap h.few hc1 c hp h1
    · obtain ⟨k, rfl⟩ := Int.eq_ofNat_of_zero_le (a := c) (by omega)
      have hf := h.few
      have := there_in w b _ hs.length cap (ws (k / 64)) h.few hc1 k (by omega) (h.c2 (by omega)) (h.word _)
      refine this.mono ?_
      rintro e w' ⟨rfl, rfl⟩
      refine ⟨?_, rfl⟩
      have e1 : takenAt hs ws (k : Int) = (ws (k / 64)).testBit (k % 64) := by
        unfold takenAt; simp; omega
      rw [e1]

end Go.Proofs.YtmldighidbfhhaaDoor
namespace Go.Proofs.YtmldighidbfhhaaDoor
open Go Go.RowKit
set_option linter.unusedVariables false

theorem arF_steps (size : Int) (hv : Value) (ws : Nat → Nat) (low used steps s : Int) (i : Nat) (hi : i < 1029) :
    upd (arF size hv ws low used steps) 1028 (.int .i64 s) i = arF size hv ws low used s i := by
  unfold upd arF
  by_cases e : i = 1028
  · subst e; simp
  · rw [if_neg e]
    repeat' split
    all_goals first | rfl | (exfalso; omega)

theorem ArRep.stepped {w b hv size hs ws low used steps} (h : ArRep w b hv size hs ws low used steps) (s : Int) :
    ArRep (w.setCell ⟨b, 1028, none⟩ (.int .i64 s)) b hv size hs ws low used s ∧ Kept [b] w (w.setCell ⟨b, 1028, none⟩ (.int .i64 s)) := by
  have k : Kept [b] w (w.setCell ⟨b, 1028, none⟩ (.int .i64 s)) := (Kept.refl _ w).set _ (by simp)
  refine ⟨⟨(h.blk.set 1028 _).congr (arF_steps size hv ws low used steps s), k.row h.row ?_, h.ne, h.word, h.few⟩, k⟩
  intro j hj m
  simp at m
  exact h.ne (by rw [hj, m])

/-- What a taken cell's address is. -/
theorem ArRep.at_ {w b hv size hs ws low used steps} (h : ArRep w b hv size hs ws low used steps) {c : Int} (ht : takenAt hs ws c = true) :
    ∃ g cap k, c = (k : Nat) ∧ k < hs.length ∧ hv = .slice (some ⟨g, 0, none⟩) hs.length cap ∧ g ≠ b ∧ g < w.heap.size ∧ hs.length ≤ cap ∧ cap ≤ maxLen ∧ w.cell? ⟨g, k, none⟩ = some (.int .u64 (hs.getD k 0)) ∧ w.frozen? ⟨g, k, none⟩ = false := by
  unfold takenAt at ht
  simp only [Bool.and_eq_true, decide_eq_true_eq] at ht
  obtain ⟨⟨h0, h1⟩, h2⟩ := ht
  obtain ⟨k, rfl⟩ := Int.eq_ofNat_of_zero_le h0
  rcases h.val with ⟨rfl, rfl⟩ | ⟨g, cap, rfl, hcap, hcap2, hne, hlt, hcells⟩
  · simp at h1; omega
  · refine ⟨g, cap, k, rfl, by omega, rfl, hne, hlt, hcap, hcap2, hcells k (by omega), ?_⟩
    obtain ⟨_, h1 | ⟨g', cap', cur, hv', _, hg, _⟩⟩ := h.row
    · cases h1.1
    · cases hv'
      simp [World.frozen?, hg]

set_option maxHeartbeats 1000000 in
set_option maxRecDepth 100000 in
theorem step_walk (w : World) (b g n cap k : Nat) (s : Int) (hk : k < n) (hn : n ≤ 65536) (hcap : n ≤ cap) (hcap2 : cap ≤ maxLen) (h1 : w.cell? ⟨b, 1, none⟩ = some (.slice (some ⟨g, 0, none⟩) n cap))
    (h5 : w.cell? ⟨b, 1028, none⟩ = some (.int .i64 s)) (hf : w.frozen? ⟨b, 1028, none⟩ = false)
    (ht : Calls Tryd.prog 43 #[.pointer (some ⟨b, 0, none⟩), .int .i64 k] w fun e w' => e = .returned (.int .i64 0) ∧ w = w') :
    Calls Tryd.prog 39 #[.pointer (some ⟨b, 0, none⟩), .int .i64 k] w fun e w' => e = .returned (.tuple #[.pointer (some ⟨g, k, none⟩), .int .i64 0]) ∧ w' = w.setCell ⟨b, 1028, none⟩ (.int .i64 (wrap64 (s + 1))) := by
  unfold maxLen at hcap2
  have Ht := Lib.hid ht
  clear ht
  go_enter Tryd.func39, Tryd.ntmps39
  go_wp2_with (go_at_call 43; refine (Ht.out).mono ?_; rintro e w' ⟨rfl, rfl⟩)
  go_ret2
  exact ⟨rfl, rfl⟩

set_option maxHeartbeats 1000000 in
theorem step_walk_no (w : World) (b : Nat) (c : Int)
    (ht : Calls Tryd.prog 43 #[.pointer (some ⟨b, 0, none⟩), .int .i64 c] w fun e w' => e = .returned (.int .i64 30) ∧ w = w') :
    Calls Tryd.prog 39 #[.pointer (some ⟨b, 0, none⟩), .int .i64 c] w fun e w' => e = .returned (.tuple #[.pointer none, .int .i64 30]) ∧ w = w' := by
  have Ht := Lib.hid ht
  clear ht
  go_enter Tryd.func39, Tryd.ntmps39
  go_wp2_with (go_at_call 43; refine (Ht.out).mono ?_; rintro e w' ⟨rfl, rfl⟩)
  go_ret2
  exact ⟨rfl, rfl⟩

set_option maxHeartbeats 1000000 in
set_option maxRecDepth 100000 in
theorem load_walk (w : World) (b g k : Nat) (s x : Int) (hgb : g ≠ b) (hc : w.cell? ⟨g, k, none⟩ = some (.int .u64 x)) (hf : w.frozen? ⟨g, k, none⟩ = false)
    (hs : Calls Tryd.prog 39 #[.pointer (some ⟨b, 0, none⟩), .int .i64 k] w fun e w' => e = .returned (.tuple #[.pointer (some ⟨g, k, none⟩), .int .i64 0]) ∧ w' = w.setCell ⟨b, 1028, none⟩ (.int .i64 s)) :
    Calls Tryd.prog 28 #[.pointer (some ⟨b, 0, none⟩), .int .i64 k] w fun e w' => e = .returned (.tuple #[.int .u64 x, .int .i64 0]) ∧ w' = (w.setCell ⟨b, 1028, none⟩ (.int .i64 s)) := by
  have Hs := Lib.hid hs
  clear hs
  go_enter Tryd.func28, Tryd.ntmps28
  go_wp2_with (go_at_call 39; refine (Hs.out).mono ?_; rintro e w' ⟨rfl, rfl⟩)
  go_ret2
  exact ⟨rfl, rfl⟩

set_option maxHeartbeats 1000000 in
theorem load_walk_no (w : World) (b : Nat) (c : Int)
    (hs : Calls Tryd.prog 39 #[.pointer (some ⟨b, 0, none⟩), .int .i64 c] w fun e w' => e = .returned (.tuple #[.pointer none, .int .i64 30]) ∧ w = w') :
    Calls Tryd.prog 28 #[.pointer (some ⟨b, 0, none⟩), .int .i64 c] w fun e w' => e = .returned (.tuple #[.int .u64 0, .int .i64 30]) ∧ w = w' := by
  have Hs := Lib.hid hs
  clear hs
  go_enter Tryd.func28, Tryd.ntmps28
  go_wp2_with (go_at_call 39; refine (Hs.out).mono ?_; rintro e w' ⟨rfl, rfl⟩)
  go_ret2
  exact ⟨rfl, rfl⟩

set_option maxHeartbeats 1000000 in
set_option maxRecDepth 100000 in
theorem store_walk (w : World) (b g k : Nat) (s x : Int) (v : Int) (hgb : g ≠ b) (hc : w.cell? ⟨g, k, none⟩ = some (.int .u64 x)) (hf : w.frozen? ⟨g, k, none⟩ = false)
    (hs : Calls Tryd.prog 39 #[.pointer (some ⟨b, 0, none⟩), .int .i64 k] w fun e w' => e = .returned (.tuple #[.pointer (some ⟨g, k, none⟩), .int .i64 0]) ∧ w' = w.setCell ⟨b, 1028, none⟩ (.int .i64 s)) :
    Calls Tryd.prog 34 #[.pointer (some ⟨b, 0, none⟩), .int .i64 k, .int .u64 v] w fun e w' => e = .returned (.int .i64 0) ∧ w' = (w.setCell ⟨b, 1028, none⟩ (.int .i64 s)).setCell ⟨g, k, none⟩ (.int .u64 v) := by
  have Hs := Lib.hid hs
  clear hs
  go_enter Tryd.func34, Tryd.ntmps34
  go_wp2_with (go_at_call 39; refine (Hs.out).mono ?_; rintro e w' ⟨rfl, rfl⟩)
  go_ret
  exact ⟨rfl, rfl⟩

set_option maxHeartbeats 1000000 in
theorem store_walk_no (w : World) (b : Nat) (c : Int) (v : Int)
    (hs : Calls Tryd.prog 39 #[.pointer (some ⟨b, 0, none⟩), .int .i64 c] w fun e w' => e = .returned (.tuple #[.pointer none, .int .i64 30]) ∧ w = w') :
    Calls Tryd.prog 34 #[.pointer (some ⟨b, 0, none⟩), .int .i64 c, .int .u64 v] w fun e w' => e = .returned (.int .i64 30) ∧ w = w' := by
  have Hs := Lib.hid hs
  clear hs
  go_enter Tryd.func34, Tryd.ntmps34
  go_wp2_with (go_at_call 39; refine (Hs.out).mono ?_; rintro e w' ⟨rfl, rfl⟩)
  go_ret
  exact ⟨rfl, rfl⟩

set_option maxHeartbeats 1000000 in
set_option maxRecDepth 100000 in
theorem cas_walk (w : World) (b g k : Nat) (s x : Int) (o v : Int) (hgb : g ≠ b) (hc : w.cell? ⟨g, k, none⟩ = some (.int .u64 x)) (hf : w.frozen? ⟨g, k, none⟩ = false) (hx : (x == o) = true) (hx2 : (x != o) = false)
    (hs : Calls Tryd.prog 39 #[.pointer (some ⟨b, 0, none⟩), .int .i64 k] w fun e w' => e = .returned (.tuple #[.pointer (some ⟨g, k, none⟩), .int .i64 0]) ∧ w' = w.setCell ⟨b, 1028, none⟩ (.int .i64 s)) :
    Calls Tryd.prog 35 #[.pointer (some ⟨b, 0, none⟩), .int .i64 k, .int .u64 o, .int .u64 v] w fun e w' => e = .returned (.tuple #[.bool true, .int .i64 0]) ∧ w' = (w.setCell ⟨b, 1028, none⟩ (.int .i64 s)).setCell ⟨g, k, none⟩ (.int .u64 v) := by
  have Hs := Lib.hid hs
  clear hs
  go_enter Tryd.func35, Tryd.ntmps35
  go_wp2_with (go_at_call 39; refine (Hs.out).mono ?_; rintro e w' ⟨rfl, rfl⟩)
  go_ret2
  exact ⟨rfl, rfl⟩

set_option maxHeartbeats 1000000 in
set_option maxRecDepth 100000 in
theorem cas_walk_not (w : World) (b g k : Nat) (s x : Int) (o v : Int) (hgb : g ≠ b) (hc : w.cell? ⟨g, k, none⟩ = some (.int .u64 x)) (hf : w.frozen? ⟨g, k, none⟩ = false) (hx : (x == o) = false) (hx2 : (x != o) = true)
    (hs : Calls Tryd.prog 39 #[.pointer (some ⟨b, 0, none⟩), .int .i64 k] w fun e w' => e = .returned (.tuple #[.pointer (some ⟨g, k, none⟩), .int .i64 0]) ∧ w' = w.setCell ⟨b, 1028, none⟩ (.int .i64 s)) :
    Calls Tryd.prog 35 #[.pointer (some ⟨b, 0, none⟩), .int .i64 k, .int .u64 o, .int .u64 v] w fun e w' => e = .returned (.tuple #[.bool false, .int .i64 0]) ∧ w' = (w.setCell ⟨b, 1028, none⟩ (.int .i64 s)) := by
  have Hs := Lib.hid hs
  clear hs
  go_enter Tryd.func35, Tryd.ntmps35
  go_wp2_with (go_at_call 39; refine (Hs.out).mono ?_; rintro e w' ⟨rfl, rfl⟩)
  go_ret2
  exact ⟨rfl, rfl⟩

set_option maxHeartbeats 1000000 in
theorem cas_walk_no (w : World) (b : Nat) (c : Int) (o v : Int)
    (hs : Calls Tryd.prog 39 #[.pointer (some ⟨b, 0, none⟩), .int .i64 c] w fun e w' => e = .returned (.tuple #[.pointer none, .int .i64 30]) ∧ w = w') :
    Calls Tryd.prog 35 #[.pointer (some ⟨b, 0, none⟩), .int .i64 c, .int .u64 o, .int .u64 v] w fun e w' => e = .returned (.tuple #[.bool false, .int .i64 30]) ∧ w = w' := by
  have Hs := Lib.hid hs
  clear hs
  go_enter Tryd.func35, Tryd.ntmps35
  go_wp2_with (go_at_call 39; refine (Hs.out).mono ?_; rintro e w' ⟨rfl, rfl⟩)
  go_ret2
  exact ⟨rfl, rfl⟩

end Go.Proofs.YtmldighidbfhhaaDoor
namespace Go.Proofs.YtmldighidbfhhaaDoor
open Go Go.RowKit
set_option linter.unusedVariables false

set_option maxHeartbeats 1000000 in
set_option maxRecDepth 100000 in
theorem free_walk (w : World) (b k x : Nat) (low used : Int) (hk : k < 65536) (hl0 : 0 ≤ low) (hl1 : low ≤ 1024) (hu0 : 1 ≤ used) (hu1 : used ≤ 65536)
    (hx : w.cell? ⟨b, 2 + k / 64, none⟩ = some (.int .u64 x)) (h3 : w.cell? ⟨b, 1026, none⟩ = some (.int .i64 low)) (h4 : w.cell? ⟨b, 1027, none⟩ = some (.int .i64 used))
    (hf : ∀ i, w.frozen? ⟨b, i, none⟩ = false)
    (ht : Calls Tryd.prog 43 #[.pointer (some ⟨b, 0, none⟩), .int .i64 k] w fun e w' => e = .returned (.int .i64 0) ∧ w = w') :
    Calls Tryd.prog 32 #[.pointer (some ⟨b, 0, none⟩), .int .i64 k] w fun e w' => e = .returned (.int .i64 0) ∧
      w' = (((w.setCell ⟨b, 2 + k / 64, none⟩ (.int .u64 (bits BinOp.andNot IntKind.u64 x (IntKind.u64.wrap (2 ^ (k % 64)))))).setCell ⟨b, 1026, none⟩ (.int .i64 (if (k : Int) / 64 < low then (k : Int) / 64 else low))).setCell ⟨b, 1027, none⟩ (.int .i64 (used - 1))).drew := by
  have Ht := Lib.hid ht
  clear ht
  have hq : k / 64 < 1024 := by omega
  by_cases hmin : (k : Int) / 64 < low
  all_goals
    go_enter Tryd.func32, Tryd.ntmps32
    go_wp2_with (go_at_call 43; refine (Ht.out).mono ?_; rintro e w' ⟨rfl, rfl⟩)
    go_region
    go_wp2
    go_ret
    exact ⟨rfl, rfl⟩

set_option maxHeartbeats 1000000 in
theorem free_walk_no (w : World) (b : Nat) (c : Int)
    (ht : Calls Tryd.prog 43 #[.pointer (some ⟨b, 0, none⟩), .int .i64 c] w fun e w' => e = .returned (.int .i64 30) ∧ w = w') :
    Calls Tryd.prog 32 #[.pointer (some ⟨b, 0, none⟩), .int .i64 c] w fun e w' => e = .returned (.int .i64 30) ∧ w = w' := by
  have Ht := Lib.hid ht
  clear ht
  go_enter Tryd.func32, Tryd.ntmps32
  go_wp2_with (go_at_call 43; refine (Ht.out).mono ?_; rintro e w' ⟨rfl, rfl⟩)
  go_ret
  exact ⟨rfl, rfl⟩
end Go.Proofs.YtmldighidbfhhaaDoor
namespace Go.Proofs.YtmldighidbfhhaaDoor
open Go Go.RowKit
set_option linter.unusedVariables false

theorem ArRep.put {w b hv size hs ws low used steps} (h : ArRep w b hv size hs ws low used steps) (i : Nat) (v : Value) (ws' : Nat → Nat) (low' used' steps' : Int)
    (e : ∀ j, j < 1029 → upd (arF size hv ws low used steps) i v j = arF size hv ws' low' used' steps' j) (hw : ∀ i, ws' i < 18446744073709551616) :
    ArRep (w.setCell ⟨b, i, none⟩ v) b hv size hs ws' low' used' steps' := by
  have k : Kept [b] w (w.setCell ⟨b, i, none⟩ v) := (Kept.refl _ w).set _ (by simp)
  refine ⟨(h.blk.set i v).congr e, k.row h.row ?_, h.ne, hw, h.few⟩
  intro j hj m
  simp at m
  exact h.ne (by rw [hj, m])

theorem ArRep.drewN {w b hv size hs ws low used steps} (h : ArRep w b hv size hs ws low used steps) (n : Nat) : ArRep (w.drewN n) b hv size hs ws low used steps :=
  ⟨h.blk.of_heap rfl, h.row, h.ne, h.word, h.few⟩

theorem ArRep.drew {w b hv size hs ws low used steps} (h : ArRep w b hv size hs ws low used steps) : ArRep w.drew b hv size hs ws low used steps :=
  ⟨h.blk.of_heap rfl, h.row, h.ne, h.word, h.few⟩

theorem ArRep.putWord {w b hv size hs ws low used steps} (h : ArRep w b hv size hs ws low used steps) (i y : Nat) (hi : i < 1024) (hy : y < 18446744073709551616) :
    ArRep (w.setCell ⟨b, 2 + i, none⟩ (.int .u64 y)) b hv size hs (fun j => if j = i then y else ws j) low used steps := by
  refine h.put _ _ _ _ _ _ ?_ ?_
  · intro j hj
    unfold upd arF
    by_cases e : j = 2 + i
    · subst e
      have e1 : 2 + i - 2 = i := by omega
      have e2 : ¬ 2 + i = 0 := by omega
      have e3 : ¬ 2 + i = 1 := by omega
      have e4 : 2 + i < 1026 := by omega
      simp only [e1, e2, e3, e4, if_true, if_false]
    · rw [if_neg e]
      by_cases e2 : j < 1026
      · by_cases e0 : j = 0
        · simp only [e0, if_true]
        by_cases e1 : j = 1
        · simp [e1]
        have e3 : ¬ j - 2 = i := by omega
        simp only [e0, e1, e2, e3, if_true, if_false]
      · simp only [e2, if_false]
  · intro j
    show (if j = i then y else ws j) < _
    split
    · exact hy
    · exact h.word j

theorem ArRep.putLow {w b hv size hs ws low used steps} (h : ArRep w b hv size hs ws low used steps) (x : Int) :
    ArRep (w.setCell ⟨b, 1026, none⟩ (.int .i64 x)) b hv size hs ws x used steps := by
  refine h.put _ _ _ _ _ _ ?_ h.word
  intro j hj
  unfold upd arF
  by_cases e : j = 1026
  · subst e; simp
  · rw [if_neg e]; repeat' split
    all_goals first | rfl | (exfalso; omega)

theorem ArRep.putUsed {w b hv size hs ws low used steps} (h : ArRep w b hv size hs ws low used steps) (x : Int) :
    ArRep (w.setCell ⟨b, 1027, none⟩ (.int .i64 x)) b hv size hs ws low x steps := by
  refine h.put _ _ _ _ _ _ ?_ h.word
  intro j hj
  unfold upd arF
  by_cases e : j = 1027
  · subst e; simp
  · rw [if_neg e]; repeat' split
    all_goals first | rfl | (exfalso; omega)

/-- A store into the row of words. -/
theorem ArRep.putCell {w b g n cap size hs ws low used steps} (h : ArRep w b (.slice (some ⟨g, 0, none⟩) n cap) size hs ws low used steps) (k : Nat) (x : Int) (hk : k < hs.length) :
    ArRep (w.setCell ⟨g, k, none⟩ (.int .u64 x)) b (.slice (some ⟨g, 0, none⟩) n cap) size (hs.set k x) ws low used steps := by
  have hgb : g ≠ b := fun e => h.ne (by simp [Value.ownBlock, e])
  refine ⟨h.blk.other _ (by simpa using hgb), ?_, h.ne, h.word, by simpa using h.few⟩
  obtain ⟨hl, h1 | ⟨g', cap', cur, hv', h0, hg, h2, h3, h4, h5⟩⟩ := h.row
  · cases h1.1
  · cases hv'
    refine ⟨by simp, .inr ⟨g, cap, cur.setIfInBounds k (.int .u64 x), by simp, Nat.zero_le _, ?_, by simpa using h2, h3, by simpa using h4, ?_⟩⟩
    · simp [World.setCell, Array.getElem?_modify, hg]
    · simp only [List.length_set, Nat.mul_one, Array.toList_setIfInBounds, List.map_set]
      rw [← h5, Nat.mul_one, List.take_set]

/-- Behind an append to the row, the new value laid in the struct. -/
theorem ArRep.putRow {w w1 : World} {b hv size hs ws low used steps} (h : ArRep w b hv size hs ws low used steps) (hv' : Value) (x : Int)
    (hrow : w1.ownsRow 0 67 1 hv' (hs.length + 1) (hs.map (Value.int .u64) ++ [.int .u64 x])) (hb : w1.heap[b]? = w.heap[b]?) (hne : hv'.ownBlock ≠ some b) (hf : hs.length + 1 ≤ 65536) :
    ArRep (w1.setCell ⟨b, 1, none⟩ hv') b hv' size (hs ++ [x]) ws low used steps := by
  have h1 : Blk w1 b 1029 88 (arF size hv ws low used steps) := h.blk.of_heap hb
  have k : Kept [b] w1 (w1.setCell ⟨b, 1, none⟩ hv') := (Kept.refl _ w1).set _ (by simp)
  refine ⟨(h1.set 1 hv').congr ?_, ?_, hne, h.word, by simpa using hf⟩
  · intro j hj
    unfold upd arF
    by_cases e : j = 1
    · subst e; simp
    · simp only [e, if_false]
  · have := k.row hrow (by intro j hj m; simp at m; exact hne (by rw [hj, m]))
    simpa using this

/-- The least bit that a word lacks. -/
theorem least_gap (x : Nat) (hx : x < 18446744073709551616) (hf : x ≠ 18446744073709551615) :
    Lib.ctz 64 (18446744073709551615 - x) < 64 ∧ x.testBit (Lib.ctz 64 (18446744073709551615 - x)) = false ∧ ∀ i, i < Lib.ctz 64 (18446744073709551615 - x) → x.testBit i = true := by
  have hb : ∀ i, i < 64 → (18446744073709551615 - x).testBit i = !x.testBit i := by
    intro i hi
    have := Nat.testBit_two_pow_sub_succ (n := 64) (x := x) hx i
    rw [show (2 ^ 64 - (x + 1)) = 18446744073709551615 - x from by omega] at this
    rw [this]; simp [hi]
  generalize hy : 18446744073709551615 - x = y at *
  have h0 : y ≠ 0 := by omega
  have hlt : y < 2 ^ 64 := by omega
  obtain ⟨m, hm, hk⟩ := Lib.ctzFrom_spec 64 y (by omega) hlt
  have e : Lib.ctz 64 y = Lib.ctzFrom 64 y := by simp [Lib.ctz, h0]
  rw [e]
  generalize Lib.ctzFrom 64 y = j at *
  have tb : ∀ i, i ≤ j → y.testBit i = decide (i = j) := by
    intro i hi
    rw [hm, Nat.mul_comm, Nat.testBit_mul_two_pow]
    by_cases e : i = j
    · subst e; simp [Nat.testBit_zero]
    · have h1 : ¬ j ≤ i := by omega
      simp [e, h1]
  refine ⟨hk, ?_, ?_⟩
  · have h1 := hb j hk
    rw [tb j (Nat.le_refl _)] at h1
    simpa using h1
  · intro i hi
    have h1 := hb i (by omega)
    rw [tb i (by omega)] at h1
    have : decide (i = j) = false := by simp; omega
    rw [this] at h1
    simpa using h1.symm

theorem xor_not (x : Nat) (hx : x < 18446744073709551616) : bits BinOp.xor IntKind.u64 (if IntKind.u64.signed = true then -1 else IntKind.u64.max) (x : Int) = ((18446744073709551615 - x : Nat) : Int) := by
  have h1 : (BitVec.ofInt 64 (x : Int)).toNat = x := by
    rw [BitVec.ofInt_natCast, BitVec.toNat_ofNat]; exact Nat.mod_eq_of_lt (by omega)
  show IntKind.u64.wrap ((BitVec.ofInt 64 (18446744073709551615 : Int) ^^^ BitVec.ofInt 64 (x : Int)).toNat : Int) = _
  have h2 : BitVec.ofInt 64 (18446744073709551615 : Int) = BitVec.allOnes 64 := by decide
  rw [h2, BitVec.xor_comm, BitVec.xor_allOnes, BitVec.toNat_not, h1, IntKind.wrap_u64]
  omega

theorem or_pow (x j : Nat) (hx : x < 18446744073709551616) (hj : j < 64) : bits BinOp.or IntKind.u64 (x : Int) (IntKind.u64.wrap (2 ^ j)) = ((x ||| 2 ^ j : Nat) : Int) ∧ x ||| 2 ^ j < 18446744073709551616 := by
  have hp : 2 ^ j < 18446744073709551616 := by
    have : 2 ^ j < 2 ^ 64 := Nat.pow_lt_pow_right (by omega) hj
    omega
  have e : IntKind.u64.wrap (2 ^ j) = ((2 ^ j : Nat) : Int) := by
    have e0 : ((2 : Int) ^ j) = ((2 ^ j : Nat) : Int) := by simp
    rw [IntKind.wrap_u64, e0]
    generalize 2 ^ j = z at *
    omega
  rw [e]
  exact ⟨bits_or_u64_nat x _ hx hp, Nat.or_lt_two_pow (n := 64) hx hp⟩

theorem andnot_pow (x j : Nat) (hx : x < 18446744073709551616) (hj : j < 64) : ∃ y : Nat, bits BinOp.andNot IntKind.u64 (x : Int) (IntKind.u64.wrap (2 ^ j)) = (y : Int) ∧ y < 18446744073709551616 ∧ ∀ i, y.testBit i = (x.testBit i && !decide (i = j)) := by
  have hp : 2 ^ j < 18446744073709551616 := by
    have : 2 ^ j < 2 ^ 64 := Nat.pow_lt_pow_right (by omega) hj
    omega
  have e : IntKind.u64.wrap (2 ^ j) = ((2 ^ j : Nat) : Int) := by
    have e0 : ((2 : Int) ^ j) = ((2 ^ j : Nat) : Int) := by simp
    rw [IntKind.wrap_u64, e0]
    generalize 2 ^ j = z at *
    omega
  rw [e]
  have h1 : (BitVec.ofInt 64 (x : Int)).toNat = x := by
    rw [BitVec.ofInt_natCast, BitVec.toNat_ofNat]; exact Nat.mod_eq_of_lt (by omega)
  have h2 : (BitVec.ofInt 64 ((2 ^ j : Nat) : Int)).toNat = 2 ^ j := by
    rw [BitVec.ofInt_natCast, BitVec.toNat_ofNat]; exact Nat.mod_eq_of_lt (by omega)
  refine ⟨(BitVec.ofInt 64 (x : Int) &&& ~~~ BitVec.ofInt 64 ((2 ^ j : Nat) : Int)).toNat, ?_, (BitVec.isLt _), ?_⟩
  · show IntKind.u64.wrap ((BitVec.ofInt 64 (x : Int) &&& ~~~ BitVec.ofInt 64 ((2 ^ j : Nat) : Int)).toNat : Int) = _
    have := (BitVec.ofInt 64 (x : Int) &&& ~~~ BitVec.ofInt 64 ((2 ^ j : Nat) : Int)).isLt
    rw [IntKind.wrap_u64]
    omega
  · intro i
    rw [BitVec.toNat_and, Nat.testBit_and, h1, BitVec.toNat_not, h2]
    have := Nat.testBit_two_pow_sub_succ (n := 64) (x := 2 ^ j) hp i
    rw [show (2 ^ 64 - (2 ^ j + 1)) = 2 ^ 64 - 1 - 2 ^ j from by omega] at this
    rw [this, Nat.testBit_two_pow]
    by_cases hi : i < 64
    · simp [hi, eq_comm]
    · have : x.testBit i = false := Nat.testBit_lt_two_pow (Nat.lt_of_lt_of_le hx (by have : 2 ^ 64 ≤ 2 ^ i := Nat.pow_le_pow_right (by omega) (by omega); omega))
      rw [this]; rfl

end Go.Proofs.YtmldighidbfhhaaDoor
namespace Go.Proofs.YtmldighidbfhhaaDoor
open Go Go.RowKit
set_option linter.unusedVariables false
variable {P : Program}

/-- What an append leaves: the row, and where it lies. -/
structure Appended (w w' : World) (e : TypeId) (size : Nat) (v v' : Value) (n : Nat) (xs : List Value) : Prop where
  row : w'.ownsRow 0 e size v' n xs
  grown : w.grownBy w' v.ownBlock
  place : v'.ownBlock = v.ownBlock ∨ v'.ownBlock = some w.heap.size

theorem run_append_new (w : World) (t ty e : TypeId) (i : TypeInfo) (z : Value) (size bytes : Nat) (ht : P.underlying t = some (.slice e)) (hi : P.info? e = some i) (hz : i.zero = some z)
    (hsize : i.size = size) (hby : i.bytes = bytes) (hzs : z.cells.size = size) (hsz : 0 < size)
    (v : Value) (n : Nat) (xs : List Value) (hown : w.ownsRow 0 e size v n xs)
    (a : Addr) (m c : Nat) (news : List Value) (hl : news.length = m * size) (hnews : ∀ j u, news[j]? = some u → w.cell? (a.add j) = some u) (h1 : ∀ u ∈ news, u.oneCell' = true)
    (h63 : n + m ≤ maxLen) (hbytes : (n + m) * bytes ≤ 140737488355328) :
    ∃ v' w', (Builtin.append_ #[t, t] ty #[v, .slice (some a) m c]).run P w = .ok v' w' ∧ Appended w w' e size v v' (n + m) (xs ++ news) := by
  obtain ⟨v', w', hr, h2, h3, h4⟩ := run_append_own (P := P) w 0 t ty e i z size bytes ht hi hz hsize hby hzs hsz v n xs hown a m c news hl hnews h1 h63 hbytes (Nat.zero_le _)
  refine ⟨v', w', hr, h2, h3, ?_⟩
  have hmx : n + m ≤ 9223372036854775807 := by simp only [maxLen] at h63; omega
  rcases hown.2 with ⟨rfl, rfl⟩ | ⟨g, cap, cur, rfl, hbg, hg, hnc, hcm, hcs, htake⟩
  · by_cases hm : m = 0
    · left; rw [h4.2 ⟨rfl, hm⟩]
    · right
      have hr' := run_append_nil (P := P) w t ty e i z ht hi hz a m c news (by rw [hsize]; exact hl) hnews (by omega) (by omega) (by rw [hby]; simp only [Nat.zero_add] at hbytes; omega)
      rw [hr'] at hr
      cases hr
      rfl
  · by_cases hroom : n + m ≤ cap
    · left
      obtain ⟨w'', hr', _⟩ := run_append_fits (P := P) w 0 t ty e i size ht hi hsize g n cap xs hown a m c news hl hnews h1 hroom
      rw [hr'] at hr
      cases hr
      rfl
    · right
      have holds : ∀ j u, xs[j]? = some u → w.cell? ((⟨g, 0, none⟩ : Addr).add j) = some u := hown.cells (g := g) rfl
      have hr' := run_append_grow (P := P) w t ty e i z ht hi hz ⟨g, 0, none⟩ n cap xs (by rw [hsize]; exact hown.1) holds a m c news (by rw [hsize]; exact hl) hnews (by omega) (by omega) (by rw [hby]; exact growslice_fits (by omega) hbytes)
      rw [hr'] at hr
      cases hr
      rfl

theorem wpList_append_new {w : World} {ops : Array Oper} {rest : List Oper} {o : Oper} {a : Act} {Q : Exit → Act → World → Prop} (hgd : o.guard = none) (s x : Operand) (t : TypeId)
    (ho : o.op = .call { callee := .builtin .append, args := #[s, x], argTypes := #[t, t] })
    (e : TypeId) (i : TypeInfo) (z : Value) (size bytes : Nat) (ht : P.underlying t = some (.slice e)) (hi : P.info? e = some i) (hz : i.zero = some z)
    (hsize : i.size = size) (hby : i.bytes = bytes) (hzs : z.cells.size = size) (hsz : 0 < size)
    (v : Value) (n : Nat) (xs : List Value) (hs : a.eval s = v) (hown : w.ownsRow 0 e size v n xs)
    (ad : Addr) (m c : Nat) (news : List Value) (hx : a.eval x = .slice (some ad) m c) (hl : news.length = m * size) (hnews : ∀ j u, news[j]? = some u → w.cell? (ad.add j) = some u) (h1 : ∀ u ∈ news, u.oneCell' = true)
    (h63 : n + m ≤ maxLen) (hbytes : (n + m) * bytes ≤ 140737488355328)
    (h : ∀ v' w', Appended w w' e size v v' (n + m) (xs ++ news) → wpList P ops Q rest (a.put o.dst v') w') : wpList P ops Q (o :: rest) a w := by
  refine wpList_plain hgd fun K hK => ?_
  obtain ⟨v', w', hr, h2⟩ := run_append_new (P := P) w t o.type e i z size bytes ht hi hz hsize hby hzs hsz v n xs hown ad m c news hl hnews h1 h63 hbytes
  unfold Oper.wp execOp
  simp only [ho, resolve, invoke, builtin, Sem.run_bind, Sem.run_pure, Result.andThen_ok, List.map_toArray, List.map_cons, List.map_nil, hs, hx, hr]
  exact hK _ _ (h v' w' h2)

theorem cell_one (w : World) (n : Nat) (x : Value) (t : TypeId) (hn : n = w.heap.size) : ∀ j u, [x][j]? = some u → (w.alloc (.cells #[x] t)).cell? ((⟨n, 0, none⟩ : Addr).add j) = some u := by
  subst hn
  intro j u hu
  cases j with
  | zero =>
    simp at hu
    subst hu
    have h := Blk.made w #[x] t (fun _ => x) 1 rfl (fun i hi => by obtain rfl : i = 0 := by omega
                                                                   rfl)
    exact h.cell (i := 0) (by omega)
  | succ j => simp at hu

/-- A row of one-cell elements that isn't empty, spelt out. -/
theorem row_out {w : World} {e : TypeId} {v : Value} {n : Nat} {xs : List Value} (h : w.ownsRow 0 e 1 v n xs) (hn : 0 < n) :
    ∃ g cap, v = .slice (some ⟨g, 0, none⟩) n cap ∧ n ≤ cap ∧ cap ≤ maxLen ∧ g < w.heap.size ∧ (∀ i, w.frozen? ⟨g, i, none⟩ = false) ∧ ∀ i u, xs[i]? = some u → w.cell? ⟨g, i, none⟩ = some u := by
  rcases h.2 with ⟨_, h0⟩ | ⟨g, cap, cur, rfl, _, hg, hnc, hcm, hcs, htake⟩
  · omega
  · refine ⟨g, cap, rfl, hnc, hcm, (Array.getElem?_eq_some_iff.1 hg).1, fun i => by simp [World.frozen?, hg], fun i u hu => ?_⟩
    have := h.cells (g := g) rfl i u hu
    simp only [Addr.add] at this
    split at this
    · rename_i e0; subst e0; simpa using this
    · simpa using this

end Go.Proofs.YtmldighidbfhhaaDoor
namespace Go.Proofs.YtmldighidbfhhaaDoor
open Go Go.RowKit
set_option linter.unusedVariables false

/-- The library's table, as its variable holds it. -/
def TabAt (w : World) : Prop := ∀ j, j < Lib.deBruijn64tab.length → w.cell? ⟨0, j, none⟩ = some (.int .u8 (Lib.deBruijn64tab.getD j 0))

set_option maxHeartbeats 1000000 in
theorem tz_core (x k idx : Nat) (w : World) (hx0 : ((x : Int) == 0) = false)
    (key : IntKind.u64.wrap (bits BinOp.and IntKind.u64 (x : Int) (IntKind.u64.wrap (-(x : Int))) * 285870213051353865) / 288230376151711744 = (idx : Int))
    (hi : idx < 64) (hk : k < 64) (hcell : w.cell? ⟨0, idx, none⟩ = some (.int .u8 k)) :
    Calls Tryd.prog 42 #[.int .u64 x] w fun e w' => e = .returned (.int .i64 k) ∧ w' = w := by
  go_enter Tryd.func42, Tryd.ntmps42
  go_wp2_with (simp only [key])
  go_ret
  exact ⟨rfl, rfl⟩

theorem tz_key (x a : Nat) (hx : x < 18446744073709551616) (hx0 : x ≠ 0) (hlow : x &&& (18446744073709551616 - x) = a) :
    IntKind.u64.wrap (bits BinOp.and IntKind.u64 (x : Int) (IntKind.u64.wrap (-(x : Int))) * 285870213051353865) / 288230376151711744 = ((a * 285870213051353865 % 18446744073709551616 / 288230376151711744 : Nat) : Int) := by
  have e1 : IntKind.u64.wrap (-(x : Int)) = ((18446744073709551616 - x : Nat) : Int) := by rw [IntKind.wrap_u64]; omega
  rw [e1, bits_and_u64_nat x _ hx (by omega), hlow, IntKind.wrap_u64]
  omega

theorem tz_calls (x : Nat) (hx : x < 18446744073709551616) (hx0 : x ≠ 0) (w : World) (hT : TabAt w) :
    Calls Tryd.prog 42 #[.int .u64 x] w fun e w' => e = .returned (.int .i64 (Lib.ctz 64 x)) ∧ w' = w := by
  obtain ⟨hlow, hk⟩ := Lib.lowest_bit 64 x hx0 hx
  obtain ⟨hi, htab⟩ := Lib.deBruijn64_at _ hk
  have key := tz_key x _ hx hx0 hlow
  have hc := hT _ (show _ < Lib.deBruijn64tab.length from hi)
  rw [htab] at hc
  exact tz_core x _ _ w (by simp; omega) key hi hk hc

theorem TabAt.kept {own : List Nat} {w w' : World} (h : TabAt w) (k : Kept own w w') (hn : 0 ∉ own) : TabAt w' :=
  fun j hj => k.cell (h j hj) hn

/-- What Alloc of the cell c, the bit j of the word m, leaves. -/
def AllocPost (w : World) (b : Nat) (hv : Value) (size : Int) (hs : List Int) (ws : Nat → Nat) (used : Nat) (steps : Int) (m j : Nat) (w' : World) : Prop :=
  ∃ hv', ArRep w' b hv' size (if m * 64 + j = hs.length then hs ++ [0] else hs.set (m * 64 + j) 0) (fun i => if i = m then ws m ||| 2 ^ j else ws i) (m : Nat) ((used : Nat) + 1 : Int) steps ∧
    Kept (b :: rowsOf hv) w w' ∧ ∀ k, hv'.ownBlock = some k → hv.ownBlock = some k ∨ w.heap.size ≤ k

theorem ArRep.alloc {w b hv size hs ws low used steps} (h : ArRep w b hv size hs ws low used steps) (o : Obj) : ArRep (w.alloc o) b hv size hs ws low used steps :=
  ⟨h.blk.alloc o, h.row.alloc o, h.ne, h.word, h.few⟩

/-- Behind the append in Alloc. -/
theorem alloc_done {w w2 W w1 : World} {b : Nat} {hv v' : Value} {size : Int} {hs : List Int} {ws ws' : Nat → Nat} {low used steps : Int} (hr : ArRep W b hv size hs ws low used steps) (hk : Kept [b] w W) (hbw : b < w.heap.size)
    (ha : Appended W w1 67 1 hv v' (hs.length + 1) (hs.map (Value.int .u64) ++ [.int .u64 0])) (hf : hs.length + 1 ≤ 65536) :
    ∃ g cap, v' = .slice (some ⟨g, 0, none⟩) (hs.length + 1) cap ∧ hs.length + 1 ≤ cap ∧ cap ≤ maxLen ∧ g ≠ b ∧ (∀ i, w1.frozen? ⟨g, i, none⟩ = false) ∧ w1.cell? ⟨g, hs.length, none⟩ = some (.int .u64 0) ∧
      w1.cell? ⟨b, 1, none⟩ = some hv ∧ (∀ i, w1.frozen? ⟨b, i, none⟩ = false) ∧
      ArRep ((w1.setCell ⟨b, 1, none⟩ v').setCell ⟨g, hs.length, none⟩ (.int .u64 0)) b v' size (hs ++ [0]) ws low used steps ∧
      Kept (b :: rowsOf hv) w ((w1.setCell ⟨b, 1, none⟩ v').setCell ⟨g, hs.length, none⟩ (.int .u64 0)) ∧ (hv.ownBlock = some g ∨ w.heap.size ≤ g) := by
  obtain ⟨g, cap, rfl, h1, h2, h3, h4, h5⟩ := row_out ha.row (by omega)
  have hb : w1.heap[b]? = W.heap[b]? := ha.grown.block b hr.blk.lt (fun e => hr.ne e.symm)
  have hblk := hr.blk.of_heap hb
  have hgb : g ≠ b := by
    rcases ha.place with e | e
    · intro e2; subst e2; exact hr.ne (by rw [← e]; rfl)
    · intro e2; subst e2
      simp [Value.ownBlock] at e
      have := hr.blk.lt; omega
  have hpl : hv.ownBlock = some g ∨ w.heap.size ≤ g := by
    rcases ha.place with e | e
    · left; rw [← e]; rfl
    · right; simp [Value.ownBlock] at e; have := hk.size; omega
  have hput := hr.putRow (w1 := w1) _ 0 ha.row hb (by simpa [Value.ownBlock] using hgb) hf
  refine ⟨g, cap, rfl, h1, h2, hgb, h4, h5 _ _ (by simp), hblk.cell (i := 1) (by omega), hblk.free, ?_, ?_, hpl⟩
  · have := hput.putCell hs.length 0 (by simp)
    simpa using this
  · have k1 : Kept (b :: rowsOf hv) w W := hk.mono (fun k _ m => by simp at m; simp [m])
    have k2 : Kept (b :: rowsOf hv) w w1 := k1.grown ha.grown (fun k hk' e => List.mem_cons_of_mem _ (mem_rowsOf.2 e))
    have k3 := k2.set (a := ⟨b, 1, none⟩) (.slice (some ⟨g, 0, none⟩) (hs.length + 1) cap) (by simp)
    rcases hpl with e | e
    · exact k3.set _ (List.mem_cons_of_mem _ (mem_rowsOf.2 e))
    · exact k3.setNew _ e

theorem info_u64 : (Tryd.prog.info? 67).map (fun i => (i.zero, i.size, i.bytes)) = some (some (.int .u64 0), 1, 8) := by kernel_rfl

set_option maxHeartbeats 4000000 in
set_option maxRecDepth 100000 in
theorem alloc_walk (w : World) (b : Nat) (hv : Value) (size : Int) (hs : List Int) (ws : Nat → Nat) (low used : Nat) (steps : Int) (m : Nat) (h : ArRep w b hv size hs ws low used steps) (hT : TabAt w) (hg : b ≠ 0)
    (hu : used < size) (hsz : size ≤ 65536) (hm0 : low ≤ m) (hm1 : m < 1024) (hm2 : ∀ i, low ≤ i → i < m → ws i = 18446744073709551615) (hm3 : ws m ≠ 18446744073709551615)
    (j : Nat) (hj : Lib.ctz 64 (18446744073709551615 - ws m) = j) (hle : m * 64 + j ≤ hs.length) (hfew : m * 64 + j < 65536) :
    Calls Tryd.prog 31 #[.pointer (some ⟨b, 0, none⟩)] w fun e w' => e = .returned (.tuple #[.int .i64 (m * 64 + j : Int), .int .i64 0]) ∧ AllocPost w b hv size hs ws used steps m j w' := by
  have c0 := h.c0
  have c4 := h.c4
  have htest : ((used : Int) == size) = false := by simp; omega
  have H := Lib.hid h
  have HB := Lib.hid h.blk.lt
  have HT := Lib.hid hT
  have HM2 := Lib.hid hm2
  have HM3 := Lib.hid hm3
  have HJ := Lib.hid hj
  clear h hT hm2 hm3 hj
  go_enter Tryd.func31, Tryd.ntmps31
  go_wp2
  go_quiet (fail)
  go_wp2
  clear c0 c4
  go_loopg [] (m - low) (fun k wr => ∃ l : Nat, low ≤ l ∧ l ≤ m ∧ k = m - l ∧ ArRep wr b hv size hs ws l used steps ∧ Kept [b] w wr)
  case atStart => exact ⟨low, Nat.le_refl _, hm0, rfl, H.out.drewN _, (Kept.refl _ _).drewN _⟩
  case round =>
    obtain ⟨l, hl0, hl1, hk, hr, hkept⟩ := hrel
    have c3 := hr.c3
    have c2 := hr.c2 (i := l) (by omega)
    have fr := hr.blk.free
    have HR := Lib.hid hr
    have HK := Lib.hid hkept
    clear hr hkept
    by_cases hlm : l < m
    · have e : ws l = 18446744073709551615 := HM2.out l hl0 hlm
      rw [e] at c2
      go_wp2
      go_quiet (fail)
      go_wp2
      go_roundg (m - (l + 1))
      case measure => omega
      case rel => exact ⟨l + 1, by omega, by omega, rfl, (HR.out.drewN _).putLow _, (HK.out.drewN _).set _ (by simp)⟩
    · obtain rfl : l = m := by omega
      have e : (((ws l : Nat) : Int) == 18446744073709551615) = false := by
        have := HM3.out
        simp; omega
      have hz := HR.out.word l
      have hgap := least_gap (ws l) hz HM3.out
      rw [HJ.out] at hgap
      have htz : ∀ n, Calls Tryd.prog 42 #[.int .u64 (bits BinOp.xor IntKind.u64 (if IntKind.u64.signed = true then -1 else IntKind.u64.max) (ws l : Int))] (wr.drewN n) fun e w' => e = .returned (.int .i64 (j : Int)) ∧ w' = wr.drewN n := by
        intro n
        rw [xor_not _ hz, ← HJ.out]
        have hT' : TabAt (wr.drewN n) := (HT.out.kept HK.out (by simpa using Ne.symm hg)).kept ((Kept.refl [] wr).drewN n) (by simp)
        exact tz_calls _ (by omega) (by have := HM3.out; omega) _ hT'
      have c4 := HR.out.c4
      have c1 := HR.out.c1
      have HTZ := Lib.hid htz
      have HG := Lib.hid hgap
      have HZ := Lib.hid hz
      have hj64 := hgap.1
      clear htz hgap hz
      go_wp2
      go_quiet (fail)
      go_wp2
      have hin : 0 ≤ (l : Int) ∧ (l : Int) < 1024 := by omega
      have hw1 : IntKind.i64.wrap ((l : Int) * 64) = (l : Int) * 64 := IntWalk.i64_in _ (by omega)
      have hw2 : IntKind.i64.wrap ((l : Int) * 64 + (j : Int)) = (l : Int) * 64 + (j : Int) := IntWalk.i64_in _ (by omega)
      go_quiet ((go_at_call 42; refine (HTZ.out _).mono ?_; rintro e w' ⟨rfl, rfl⟩; exact ⟨rfl, _, rfl⟩))
      clear hw1 hw2 hin
      rw [xor_not _ HZ.out]
      have ec : (l : Int) * 64 + (j : Int) = ((l * 64 + j : Nat) : Int) := by omega
      rw [ec]
      clear ec
      obtain ⟨c, hc, hcl, hcj⟩ : ∃ c : Nat, l * 64 + j = c ∧ c / 64 = l ∧ c % 64 = j := ⟨_, rfl, by omega, by omega⟩
      rw [hc]
      rw [hc] at hle hfew
      have HC := Lib.hid hc
      have HCL := Lib.hid hcl
      have HCJ := Lib.hid hcj
      clear hc hcl hcj
      go_wp2
      go_region
      have eor := (or_pow (ws l) j HZ.out hj64).1
      have hor := (or_pow (ws l) j HZ.out hj64).2
      rw [HCJ.out, eor]
      generalize hw2 : (World.setCell (World.drewN wr _) ⟨b, 2 + l, none⟩ (.int .u64 ((ws l ||| 2 ^ j : Nat) : Int))) = w2
      have hr2 : ArRep w2 b hv size hs (fun i => if i = l then ws l ||| 2 ^ j else ws i) l used steps := by rw [← hw2]; exact (HR.out.drewN _).putWord l (ws l ||| 2 ^ j) hm1 hor
      have hk2 : Kept [b] w w2 := by rw [← hw2]; exact (HK.out.drewN _).set _ (by simp)
      clear eor hor c1 c3 c4 c2 fr e HTZ HG HK HR hw2
      clear wr
      have c4 := hr2.c4
      have c1 := hr2.c1
      have fr := hr2.blk.free
      have HR := Lib.hid hr2
      have HK := Lib.hid hk2
      have hval := hr2.val
      have hf := hr2.few
      clear hr2 hk2
      by_cases hcn : c = hs.length
      · obtain ⟨i0, hi, hz0, hz1, hz2⟩ := info_parts info_u64
        have hcb : ((c : Int) == (hs.length : Int)) = true := by rw [hcn]; simp
        have HCN := Lib.hid hcn
        have hcap : hs.length + 1 ≤ 65536 := by omega
        have hcle : c ≤ hs.length := by omega
        have hcge : hs.length ≤ c := by omega
        have hown : (w2.setCell ⟨b, 1027, none⟩ (.int .i64 (used + 1))).ownsRow 0 67 1 hv hs.length (hs.map (Value.int .u64)) := (HR.out.putUsed _).row
        clear hcn
        rcases hval with ⟨rfl, hs0⟩ | ⟨g, cap, rfl, hcp, hcap2, hne, hlt2, hcells⟩
        · have hcb0 : ((c : Int) == 0) = true := by rw [hs0] at hcle; simp at hcle; simp [hcle]
          clear hs0
          have hown2 := hown.alloc (.cells #[.int .u64 0] 67)
          have HO := Lib.hid hown2
          clear hown hown2
          go_wp2_with (at_builtin; refine wpList_append_new rfl (.tmp 84) (.tmp 85) 85 rfl 67 i0 (.int .u64 0) 1 8 Tryd.underlying85 hi hz0 hz1 hz2 rfl (by decide) _ _ _ rfl HO.out ⟨_, 0, none⟩ 1 1 [.int .u64 0] rfl rfl ?c1 ?c2 ?c3 ?c4 ?_)
          case c1 => exact cell_one _ _ _ _ (by simp)
          case c2 => simp [Value.oneCell']
          case c3 => simp only [maxLen]; first | omega | (simp; done)
          case c4 => first | omega | (simp; done)
          intro v' w1 happ
          obtain ⟨g', cap', rfl, hd1, hd2, hd3, hd4, hd5, hd6, hd7, hd8, hd9, hd10⟩ := alloc_done (w := w) (w2 := w2) (ws' := ws) (HR.out.putUsed _ |>.alloc _) ((HK.out.set _ (by simp)).alloc _) HB.out happ hcap
          rw [← HCN.out] at hd5 hd8 hd9
          have HP := Lib.hid (And.intro hd8 (And.intro hd9 hd10))
          clear hd8 hd9 hd10 happ
          unfold maxLen at hd2
          go_wp2
          go_ret2
          obtain ⟨p1, p2, p3⟩ := HP.out
          refine ⟨by rw [← HC.out]; simp, .slice (some ⟨g', 0, none⟩) (hs.length + 1) cap', ?_, ?_, ?_⟩
          · rw [HC.out, if_pos HCN.out, ← HCN.out]; exact p1
          · rw [← HCN.out]; exact p2
          · intro k hk
            simp only [Value.ownBlock, Option.some.injEq] at hk
            subst hk
            exact p3
        · have hown2 := hown.alloc (.cells #[.int .u64 0] 67)
          have HO := Lib.hid hown2
          clear hown hown2 hcells
          go_wp2_with (at_builtin; refine wpList_append_new rfl (.tmp 84) (.tmp 85) 85 rfl 67 i0 (.int .u64 0) 1 8 Tryd.underlying85 hi hz0 hz1 hz2 rfl (by decide) _ _ _ rfl HO.out ⟨_, 0, none⟩ 1 1 [.int .u64 0] rfl rfl ?c1 ?c2 ?c3 ?c4 ?_)
          case c1 => exact cell_one _ _ _ _ (by simp)
          case c2 => simp [Value.oneCell']
          case c3 => simp only [maxLen]; first | omega | (simp; done)
          case c4 => first | omega | (simp; done)
          intro v' w1 happ
          obtain ⟨g', cap', rfl, hd1, hd2, hd3, hd4, hd5, hd6, hd7, hd8, hd9, hd10⟩ := alloc_done (w := w) (w2 := w2) (ws' := ws) (HR.out.putUsed _ |>.alloc _) ((HK.out.set _ (by simp)).alloc _) HB.out happ hcap
          rw [← HCN.out] at hd5 hd8 hd9
          have HP := Lib.hid (And.intro hd8 (And.intro hd9 hd10))
          clear hd8 hd9 hd10 happ
          unfold maxLen at hd2
          go_wp2
          go_ret2
          obtain ⟨p1, p2, p3⟩ := HP.out
          refine ⟨by rw [← HC.out]; simp, .slice (some ⟨g', 0, none⟩) (hs.length + 1) cap', ?_, ?_, ?_⟩
          · rw [HC.out, if_pos HCN.out, ← HCN.out]; exact p1
          · rw [← HCN.out]; exact p2
          · intro k hk
            simp only [Value.ownBlock, Option.some.injEq] at hk
            subst hk
            exact p3
      · have hcb : ((c : Int) == (hs.length : Int)) = false := by simp; omega
        have hlt : c < hs.length := by omega
        rcases hval with ⟨rfl, rfl⟩ | ⟨g, cap, rfl, hcap, hcap2, hne, hlt2, hcells⟩
        · exact absurd hlt (by simp)
        have cg := hcells c hlt
        have fg := HR.out.rowFree
        clear hcells hcn
        go_wp2
        go_ret2
        refine ⟨by rw [← HC.out]; simp, _, ?_, ?_, fun k hk => .inl hk⟩
        · rw [HC.out, if_neg (by omega)]
          exact (HR.out.putUsed _).putCell c 0 hlt
        · exact ((HK.out.mono (fun k _ m => by simp at m; simp [m])).set _ (by simp)).set _ (by simp [rowsOf, Value.ownBlock])
end Go.Proofs.YtmldighidbfhhaaDoor
