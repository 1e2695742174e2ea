/- An arena of cells, told plainly: which cells are taken and what they have; what each call does to it.
An arena that a call has made since a first world: what is carried from step to step.
A store, told plainly, and how it lies in memory. Plain lemmas: nothing is claimed of a program here.
Numbers that a slice owns; appends to an empty slice. Plain lemmas: nothing is claimed of a program here.
A sweep's operation in memory; the walks of Clone and Begin. -/
import Derived.Test.YtbodobdllchmgaaDoorMBetween2
import Derived.Laws.EntriesVeiled
namespace Go.Proofs.YtbodobdllchmgaaDoor
open Go Go.RowKit
set_option linter.unusedVariables false

/-- An arena: its size, what each taken cell has, how many steps there were. -/
structure Ar where
  size : Nat
  get : Nat → Option Int
  steps : Int

/-- How many of the first n are taken. -/
def cnt (get : Nat → Option Int) : Nat → Nat
  | 0 => 0
  | n + 1 => cnt get n + (if (get n).isSome then 1 else 0)

theorem cnt_le (get : Nat → Option Int) (n : Nat) : cnt get n ≤ n := by
  induction n with
  | zero => exact Nat.le_refl _
  | succ n ih => unfold cnt; split <;> omega

theorem cnt_full (get : Nat → Option Int) (n : Nat) : cnt get n = n ↔ ∀ c, c < n → (get c).isSome = true := by
  induction n with
  | zero => simp [cnt]
  | succ n ih =>
    have := cnt_le get n
    unfold cnt
    by_cases h : (get n).isSome = true
    · rw [if_pos h]
      constructor
      · intro e c hc
        by_cases hcn : c = n
        · subst hcn; exact h
        · exact (ih.1 (by omega)) c (by omega)
      · intro e
        have := ih.2 fun c hc => e c (by omega)
        omega
    · rw [if_neg h]
      constructor
      · intro e; omega
      · intro e; exact absurd (e n (by omega)) h

theorem cnt_congr (g g' : Nat → Option Int) (n : Nat) (h : ∀ c, c < n → (g c).isSome = (g' c).isSome) : cnt g n = cnt g' n := by
  induction n with
  | zero => rfl
  | succ n ih =>
    unfold cnt
    rw [ih fun c hc => h c (by omega), h n (by omega)]

theorem cnt_set (g : Nat → Option Int) (c : Nat) (v : Int) (n : Nat) (hc : c < n) (hg : g c = none) : cnt (fun d => if d = c then some v else g d) n = cnt g n + 1 := by
  induction n with
  | zero => omega
  | succ n ih =>
    unfold cnt
    by_cases e : c = n
    · subst e
      rw [cnt_congr _ g c (by intro d hd; rw [if_neg (by omega)])]
      simp [hg]
    · rw [ih (by omega), if_neg (c := n = c) (by omega)]
      omega

theorem cnt_free (g : Nat → Option Int) (c : Nat) (n : Nat) (hc : c < n) (hg : (g c).isSome = true) : cnt (fun d => if d = c then none else g d) n + 1 = cnt g n := by
  induction n with
  | zero => omega
  | succ n ih =>
    unfold cnt
    by_cases e : c = n
    · subst e
      rw [cnt_congr _ g c (by intro d hd; rw [if_neg (by omega)])]
      simp [hg]
    · have := ih (by omega)
      rw [if_neg (c := n = c) (by omega)]
      omega

/-- What an arena's own words must say of it. -/
structure ArInv (S : Ar) (hs : List Int) (ws : Nat → Nat) (low used : Nat) : Prop where
  one : 1 ≤ S.size
  max : S.size ≤ 65536
  cap : hs.length ≤ S.size
  get : ∀ c : Nat, S.get c = if (ws (c / 64)).testBit (c % 64) then some (hs.getD c 0) else none
  supp : ∀ c : Nat, (ws (c / 64)).testBit (c % 64) = true → c < hs.length
  many : used = cnt S.get S.size
  lows : ∀ i, i < low → ws i = 18446744073709551615
  lowm : low ≤ 1024

/-- An arena lies at block b; fp: the blocks that are its own. -/
def ArenaAt (w : World) (b : Nat) (fp : List Nat) (S : Ar) : Prop :=
  ∃ hv hs ws, ∃ low used : Nat, ArRep w b hv S.size hs ws low used S.steps ∧ fp = b :: rowsOf hv ∧ ArInv S hs ws low used

theorem ArenaAt.taken {S : Ar} {hs : List Int} {ws : Nat → Nat} {low used : Nat} (h : ArInv S hs ws low used) (c : Int) : takenAt hs ws c = (decide (0 ≤ c) && (S.get c.toNat).isSome) := by
  unfold takenAt
  rw [h.get c.toNat]
  by_cases h0 : 0 ≤ c
  · cases ht : (ws (c.toNat / 64)).testBit (c.toNat % 64)
    · simp
    · have := h.supp _ ht
      simp [h0]; omega
  · simp [h0]

theorem ArenaAt.getD {S : Ar} {hs : List Int} {ws : Nat → Nat} {low used : Nat} (h : ArInv S hs ws low used) {k : Nat} {v : Int} (hg : S.get k = some v) : hs.getD k 0 = v ∧ k < hs.length := by
  rw [h.get k] at hg
  split at hg
  · rename_i ht
    exact ⟨by simpa using hg, h.supp _ ht⟩
  · cases hg

theorem ArenaAt.kept {own : List Nat} {w w' : World} {b : Nat} {fp : List Nat} {S : Ar} (h : ArenaAt w b fp S) (k : Kept own w w') (hn : ∀ x ∈ fp, x ∉ own) : ArenaAt w' b fp S := by
  obtain ⟨hv, hs, ws, low, used, hr, rfl, hi⟩ := h
  exact ⟨hv, hs, ws, low, used, ⟨k.blk hr.blk (hn b (by simp)), k.row hr.row (fun j hj => hn j (List.mem_cons_of_mem _ (mem_rowsOf.2 hj))), hr.ne, hr.word, hr.few⟩, rfl, hi⟩

theorem ArenaAt.fp_lt {w : World} {b : Nat} {fp : List Nat} {S : Ar} (h : ArenaAt w b fp S) : ∀ x ∈ fp, x < w.heap.size := by
  obtain ⟨hv, hs, ws, low, used, hr, rfl, hi⟩ := h
  intro x hx
  simp only [List.mem_cons] at hx
  rcases hx with rfl | hx
  · exact hr.blk.lt
  · exact (hr.row.lt x (mem_rowsOf.1 hx)).2

theorem ArenaAt.self {w : World} {b : Nat} {fp : List Nat} {S : Ar} (h : ArenaAt w b fp S) : b ∈ fp := by
  obtain ⟨hv, hs, ws, low, used, hr, rfl, hi⟩ := h
  simp

/-- What a call does that works on an arena alone: the arena is S' behind it, its blocks are those that it had, or new ones. -/
structure ArOp (w w' : World) (b : Nat) (fp : List Nat) (S' : Ar) : Prop where
  at_ : ∃ fp', ArenaAt w' b fp' S' ∧ ∀ x ∈ fp', x ∈ fp ∨ w.heap.size ≤ x
  kept : Kept fp w w'

/-- New. -/
theorem new_arena (w : World) (size : Int) (h0 : 1 ≤ size) (h1 : size ≤ 65536) :
    Calls Tryd.prog 28 #[.int .i64 size] w fun e w' => e = .returned (.tuple #[.pointer (some ⟨w.heap.size, 0, none⟩), .int .i64 0]) ∧ ArenaAt w' w.heap.size [w.heap.size] ⟨size.toNat, fun _ => none, 0⟩ ∧ Kept [] w w' := by
  refine (new_walk w size h0 h1).mono ?_
  rintro e w' ⟨rfl, rfl⟩
  refine ⟨rfl, ⟨.slice none 0 0, [], fun _ => 0, 0, 0, ⟨?_, World.ownsRow_nil _ _ _ _, by simp [Value.ownBlock], by simp, by simp⟩, rfl, ?_⟩, (Kept.refl [] w).alloc _⟩
  · refine Blk.made w _ _ _ _ (by rw [Array.size_setIfInBounds]; exact arCells_size) ?_
    intro i hi
    have := arCells_get size i hi
    rw [this]
    show some (arF size _ _ _ _ _ i) = some (arF (size.toNat : Int) _ _ _ _ _ i)
    rw [show ((size.toNat : Nat) : Int) = size from by omega]
    rfl
  · refine ⟨by show 1 ≤ size.toNat; omega, by show size.toNat ≤ 65536; omega, Nat.zero_le _, by simp, by simp, ?_, by omega, by omega⟩
    show 0 = cnt (fun _ => none) size.toNat
    generalize size.toNat = n
    induction n with
    | zero => rfl
    | succ n ih => simpa [cnt] using ih

/-- A touched arena: the same, one step more. -/
def Ar.step (S : Ar) : Ar := { S with steps := wrap64 (S.steps + 1) }
def Ar.put (S : Ar) (c : Nat) (v : Int) : Ar := { S with get := fun d => if d = c then some v else S.get d }
def Ar.drop (S : Ar) (c : Nat) : Ar := { S with get := fun d => if d = c then none else S.get d }

theorem ArInv.step {S hs ws low used} (h : ArInv S hs ws low used) (s : Int) : ArInv { S with steps := s } hs ws low used :=
  ⟨h.one, h.max, h.cap, h.get, h.supp, h.many, h.lows, h.lowm⟩

/-- What is not taken is refused. -/
theorem step_no {w b fp} {S : Ar} (h : ArenaAt w b fp S) (c : Int) (h0 : -9223372036854775808 ≤ c) (h1 : c < 9223372036854775808) (hn : c < 0 ∨ S.get c.toNat = none) :
    Calls Tryd.prog 68 #[.pointer (some ⟨b, 0, none⟩), .int .i64 c] w fun e w' => e = .returned (.tuple #[.pointer none, .int .i64 30]) ∧ w = w' := by
  obtain ⟨hv, hs, ws, low, used, hr, rfl, hi⟩ := h
  have ht := there_calls hr c h0 h1
  have : takenAt hs ws c = false := by
    rw [ArenaAt.taken hi]
    rcases hn with hn | hn
    · simp; omega
    · simp [hn]
  rw [this] at ht
  exact step_walk_no w b c ht

theorem step_yes {w b fp} {S : Ar} (h : ArenaAt w b fp S) (k : Nat) (v : Int) (hg : S.get k = some v) :
    ∃ hv hs ws g cap, ∃ low used : Nat, ArRep w b hv S.size hs ws low used S.steps ∧ fp = b :: rowsOf hv ∧ ArInv S hs ws low used ∧ hv = .slice (some ⟨g, 0, none⟩) hs.length cap ∧ g ≠ b ∧ k < hs.length ∧ w.cell? ⟨g, k, none⟩ = some (.int .u64 v) ∧ w.frozen? ⟨g, k, none⟩ = false ∧
      Calls Tryd.prog 68 #[.pointer (some ⟨b, 0, none⟩), .int .i64 k] w fun e w' => e = .returned (.tuple #[.pointer (some ⟨g, k, none⟩), .int .i64 0]) ∧ w' = w.setCell ⟨b, 1028, none⟩ (.int .i64 (wrap64 (S.steps + 1))) := by
  obtain ⟨hv, hs, ws, low, used, hr, rfl, hi⟩ := h
  have htk : takenAt hs ws (k : Int) = true := by rw [ArenaAt.taken hi]; simp [hg]
  obtain ⟨hd, hlt⟩ := ArenaAt.getD hi hg
  have hm := hi.max
  have hc := hi.cap
  have ht := there_calls hr (k : Int) (by omega) (by omega)
  rw [htk] at ht
  obtain ⟨g, cap, k', hk', h1, rfl, h2, h3, h4, h5, h6, h7⟩ := hr.at_ htk
  obtain rfl : k = k' := by omega
  rw [hd] at h6
  exact ⟨_, hs, ws, g, cap, low, used, hr, rfl, hi, rfl, h2, h1, h6, h7, step_walk w b g hs.length cap k S.steps h1 hr.few h4 h5 hr.c1 hr.c5 (hr.blk.free _) ht⟩

/-- A touch without a change. -/
theorem touched {w b fp} {S : Ar} {hv hs ws} {low used : Nat} (hr : ArRep w b hv S.size hs ws low used S.steps) (hfp : fp = b :: rowsOf hv) (hi : ArInv S hs ws low used) :
    ArOp w (w.setCell ⟨b, 1028, none⟩ (.int .i64 (wrap64 (S.steps + 1)))) b fp S.step := by
  obtain ⟨h1, h2⟩ := hr.stepped (wrap64 (S.steps + 1))
  subst hfp
  exact ⟨⟨_, ⟨hv, hs, ws, low, used, h1, rfl, hi.step _⟩, fun x hx => .inl hx⟩, h2.mono (fun k _ m => by simp at m; simp [m])⟩

/-- A touch that lays a word. -/
theorem laid {w b fp} {S : Ar} {hs ws g n cap} {low used : Nat} (hr : ArRep w b (.slice (some ⟨g, 0, none⟩) n cap) S.size hs ws low used S.steps) (hfp : fp = b :: rowsOf (.slice (some ⟨g, 0, none⟩) n cap)) (hi : ArInv S hs ws low used)
    (k : Nat) (hk : k < hs.length) (hg : (S.get k).isSome = true) (v : Int) :
    ArOp w ((w.setCell ⟨b, 1028, none⟩ (.int .i64 (wrap64 (S.steps + 1)))).setCell ⟨g, k, none⟩ (.int .u64 v)) b fp (S.step.put k v) := by
  obtain ⟨h1, h2⟩ := hr.stepped (wrap64 (S.steps + 1))
  subst hfp
  refine ⟨⟨_, ⟨_, hs.set k v, ws, low, used, h1.putCell k v hk, rfl, ?_⟩, fun x hx => .inl hx⟩, (h2.mono (fun k _ m => by simp at m; simp [m])).set _ (by simp [rowsOf, Value.ownBlock])⟩
  refine ⟨hi.one, hi.max, by rw [List.length_set]; exact hi.cap, ?_, by simpa using hi.supp, ?_, hi.lows, hi.lowm⟩
  · intro c
    show (if c = k then some v else S.get c) = _
    by_cases e : c = k
    · subst e
      rw [hi.get c] at hg
      rw [if_pos rfl]
      split at hg
      · rename_i ht
        rw [if_pos ht]
        simp [hk]
      · cases hg
    · rw [if_neg e, hi.get c]
      simp [Ne.symm e]
  · show used = cnt (fun d => if d = k then some v else S.get d) S.size
    rw [hi.many]
    refine cnt_congr _ _ _ fun c hc => ?_
    by_cases e : c = k
    · subst e; rw [if_pos rfl, hg]; rfl
    · rw [if_neg e]

theorem load_arena {w b fp} {S : Ar} (h : ArenaAt w b fp S) (k : Nat) (v : Int) (hg : S.get k = some v) :
    Calls Tryd.prog 51 #[.pointer (some ⟨b, 0, none⟩), .int .i64 k] w fun e w' => e = .returned (.tuple #[.int .u64 v, .int .i64 0]) ∧ ArOp w w' b fp S.step := by
  obtain ⟨hv, hs, ws, g, cap, low, used, hr, hfp, hi, rfl, hgb, hk, hc, hf, hst⟩ := step_yes h k v hg
  refine (load_walk w b g k _ v hgb hc hf hst).mono ?_
  rintro e w' ⟨rfl, rfl⟩
  exact ⟨rfl, touched hr hfp hi⟩

theorem load_arena_no {w b fp} {S : Ar} (h : ArenaAt w b fp S) (c : Int) (h0 : -9223372036854775808 ≤ c) (h1 : c < 9223372036854775808) (hn : c < 0 ∨ S.get c.toNat = none) :
    Calls Tryd.prog 51 #[.pointer (some ⟨b, 0, none⟩), .int .i64 c] w fun e w' => e = .returned (.tuple #[.int .u64 0, .int .i64 30]) ∧ w = w' :=
  load_walk_no w b c (step_no h c h0 h1 hn)

theorem store_arena {w b fp} {S : Ar} (h : ArenaAt w b fp S) (k : Nat) (v x : Int) (hg : S.get k = some v) :
    Calls Tryd.prog 61 #[.pointer (some ⟨b, 0, none⟩), .int .i64 k, .int .u64 x] w fun e w' => e = .returned (.int .i64 0) ∧ ArOp w w' b fp (S.step.put k x) := by
  obtain ⟨hv, hs, ws, g, cap, low, used, hr, hfp, hi, rfl, hgb, hk, hc, hf, hst⟩ := step_yes h k v hg
  refine (store_walk w b g k _ v x hgb hc hf hst).mono ?_
  rintro e w' ⟨rfl, rfl⟩
  exact ⟨rfl, laid hr hfp hi k hk (by rw [hg]; rfl) x⟩

theorem store_arena_no {w b fp} {S : Ar} (h : ArenaAt w b fp S) (c x : Int) (h0 : -9223372036854775808 ≤ c) (h1 : c < 9223372036854775808) (hn : c < 0 ∨ S.get c.toNat = none) :
    Calls Tryd.prog 61 #[.pointer (some ⟨b, 0, none⟩), .int .i64 c, .int .u64 x] w fun e w' => e = .returned (.int .i64 30) ∧ w = w' :=
  store_walk_no w b c x (step_no h c h0 h1 hn)

theorem cas_arena {w b fp} {S : Ar} (h : ArenaAt w b fp S) (k : Nat) (v x : Int) (hg : S.get k = some v) :
    Calls Tryd.prog 55 #[.pointer (some ⟨b, 0, none⟩), .int .i64 k, .int .u64 v, .int .u64 x] w fun e w' => e = .returned (.tuple #[.bool true, .int .i64 0]) ∧ ArOp w w' b fp (S.step.put k x) := by
  obtain ⟨hv, hs, ws, g, cap, low, used, hr, hfp, hi, rfl, hgb, hk, hc, hf, hst⟩ := step_yes h k v hg
  refine (cas_walk w b g k _ v v x hgb hc hf (by simp) (by simp) hst).mono ?_
  rintro e w' ⟨rfl, rfl⟩
  exact ⟨rfl, laid hr hfp hi k hk (by rw [hg]; rfl) x⟩

theorem cas_arena_not {w b fp} {S : Ar} (h : ArenaAt w b fp S) (k : Nat) (v o x : Int) (hg : S.get k = some v) (hne : v ≠ o) :
    Calls Tryd.prog 55 #[.pointer (some ⟨b, 0, none⟩), .int .i64 k, .int .u64 o, .int .u64 x] w fun e w' => e = .returned (.tuple #[.bool false, .int .i64 0]) ∧ ArOp w w' b fp S.step := by
  obtain ⟨hv, hs, ws, g, cap, low, used, hr, hfp, hi, rfl, hgb, hk, hc, hf, hst⟩ := step_yes h k v hg
  refine (cas_walk_not w b g k _ v o x hgb hc hf (by simpa using hne) (by simpa using hne) hst).mono ?_
  rintro e w' ⟨rfl, rfl⟩
  exact ⟨rfl, touched hr hfp hi⟩

theorem cas_arena_no {w b fp} {S : Ar} (h : ArenaAt w b fp S) (c o x : Int) (h0 : -9223372036854775808 ≤ c) (h1 : c < 9223372036854775808) (hn : c < 0 ∨ S.get c.toNat = none) :
    Calls Tryd.prog 55 #[.pointer (some ⟨b, 0, none⟩), .int .i64 c, .int .u64 o, .int .u64 x] w fun e w' => e = .returned (.tuple #[.bool false, .int .i64 30]) ∧ w = w' :=
  cas_walk_no w b c o x (step_no h c h0 h1 hn)

theorem free_arena_no {w b fp} {S : Ar} (h : ArenaAt w b fp S) (c : Int) (h0 : -9223372036854775808 ≤ c) (h1 : c < 9223372036854775808) (hn : c < 0 ∨ S.get c.toNat = none) :
    Calls Tryd.prog 84 #[.pointer (some ⟨b, 0, none⟩), .int .i64 c] w fun e w' => e = .returned (.int .i64 30) ∧ w = w' := by
  obtain ⟨hv, hs, ws, low, used, hr, rfl, hi⟩ := h
  have ht := there_calls hr c h0 h1
  have : takenAt hs ws c = false := by
    rw [ArenaAt.taken hi]
    rcases hn with hn | hn
    · simp; omega
    · simp [hn]
  rw [this] at ht
  exact free_walk_no w b c ht

theorem free_arena {w b fp} {S : Ar} (h : ArenaAt w b fp S) (k : Nat) (v : Int) (hg : S.get k = some v) :
    Calls Tryd.prog 84 #[.pointer (some ⟨b, 0, none⟩), .int .i64 k] w fun e w' => e = .returned (.int .i64 0) ∧ ArOp w w' b fp (S.drop k) := by
  obtain ⟨hv, hs, ws, low, used, hr, rfl, hi⟩ := h
  have htk : takenAt hs ws (k : Int) = true := by rw [ArenaAt.taken hi]; simp [hg]
  obtain ⟨hd, hlt⟩ := ArenaAt.getD hi hg
  have hm := hi.max
  have hc := hi.cap
  have hlow := hi.lowm
  have ht := there_calls hr (k : Int) (by omega) (by omega)
  rw [htk] at ht
  have hdec := cnt_free S.get k S.size (by omega) (by rw [hg]; rfl)
  have hle := cnt_le S.get S.size
  have hmany := hi.many
  obtain ⟨y, hy1, hy2, hy3⟩ := andnot_pow (ws (k / 64)) (k % 64) (hr.word _) (by omega)
  refine (free_walk w b k (ws (k / 64)) low used (by omega) (by omega) (by omega) (by omega) (by omega) (hr.c2 (by omega)) hr.c3 hr.c4 hr.blk.free ht).mono ?_
  rintro e w' ⟨rfl, rfl⟩
  rw [hy1]
  have h1 := ((hr.putWord (k / 64) y (by omega) hy2).putLow (if (k : Int) / 64 < low then (k : Int) / 64 else low)).putUsed ((used : Int) - 1)
  have e1 : (if (k : Int) / 64 < low then (k : Int) / 64 else (low : Int)) = ((if k / 64 < low then k / 64 else low : Nat) : Int) := by split <;> split <;> omega
  rw [e1] at h1 ⊢
  have e2 : (used : Int) - 1 = ((used - 1 : Nat) : Int) := by omega
  rw [e2] at h1 ⊢
  refine ⟨rfl, ⟨⟨_, ⟨hv, hs, _, _, _, h1.drew, rfl, ?_⟩, fun x hx => .inl hx⟩, ((((Kept.refl _ w).set _ (by simp)).set _ (by simp)).set _ (by simp)).drew⟩⟩
  refine ⟨hi.one, hi.max, hi.cap, ?_, ?_, ?_, ?_, by split <;> omega⟩
  · intro c
    show (if c = k then none else S.get c) = _
    by_cases e : c / 64 = k / 64
    · simp only [e, if_true, hy3]
      by_cases e3 : c = k
      · subst e3; simp
      · rw [if_neg e3, hi.get c, e]
        have : ¬ c % 64 = k % 64 := by omega
        simp [this]
    · have : ¬ c = k := by intro h; subst h; exact e rfl
      rw [if_neg this, if_neg e, hi.get c]
  · intro c hc'
    refine hi.supp c ?_
    by_cases e : c / 64 = k / 64
    · simp only [e, if_true, hy3] at hc'
      rw [e]
      simp at hc'
      exact hc'.1
    · simpa [e] using hc'
  · show used - 1 = cnt (fun d => if d = k then none else S.get d) S.size
    omega
  · intro i hi'
    have : ¬ i = k / 64 := by split at hi' <;> omega
    rw [if_neg this]
    refine hi.lows i ?_
    split at hi' <;> omega

theorem all_ones (x : Nat) (hx : x < 18446744073709551616) (h : ∀ j, j < 64 → x.testBit j = true) : x = 18446744073709551615 := by
  apply Nat.eq_of_testBit_eq
  intro i
  have e : (18446744073709551615 : Nat) = 2 ^ 64 - 1 := by decide
  rw [e, Nat.testBit_two_pow_sub_one]
  by_cases hi : i < 64
  · simp [hi, h i hi]
  · have : x.testBit i = false := Nat.testBit_lt_two_pow (Nat.lt_of_lt_of_le hx (by have : 2 ^ 64 ≤ 2 ^ i := Nat.pow_le_pow_right (by omega) (by omega); omega))
    simp [hi, this]

theorem ones_bit (j : Nat) (hj : j < 64) : (18446744073709551615 : Nat).testBit j = true := by
  have e : (18446744073709551615 : Nat) = 2 ^ 64 - 1 := by decide
  rw [e, Nat.testBit_two_pow_sub_one]
  simpa using hj

theorem alloc_arena_full {w b fp} {S : Ar} (h : ArenaAt w b fp S) (hfull : ∀ c, c < S.size → (S.get c).isSome = true) :
    Calls Tryd.prog 69 #[.pointer (some ⟨b, 0, none⟩)] w fun e w' => e = .returned (.tuple #[.int .i64 0, .int .i64 31]) ∧ ArOp w w' b fp S := by
  obtain ⟨hv, hs, ws, low, used, hr, rfl, hi⟩ := h
  have hu : used = S.size := by rw [hi.many]; exact (cnt_full _ _).2 hfull
  refine (alloc_walk_full w b S.size used hr.c0 hr.c4 (by simp [hu])).mono ?_
  rintro e w' ⟨rfl, n, rfl⟩
  exact ⟨rfl, ⟨⟨_, ⟨hv, hs, ws, low, used, hr.drewN n, rfl, hi⟩, fun x hx => .inl hx⟩, (Kept.refl _ w).drewN n⟩⟩

theorem alloc_arena {w b fp} {S : Ar} (h : ArenaAt w b fp S) (hT : TabAt w) (hb0 : b ≠ 0) (c : Nat) (hc : c < S.size) (hg : S.get c = none) (hleast : ∀ d, d < c → (S.get d).isSome = true) :
    Calls Tryd.prog 69 #[.pointer (some ⟨b, 0, none⟩)] w fun e w' => e = .returned (.tuple #[.int .i64 c, .int .i64 0]) ∧ ArOp w w' b fp (S.put c 0) := by
  obtain ⟨hv, hs, ws, low, used, hr, rfl, hi⟩ := h
  have hmax := hi.max
  have hbit : (ws (c / 64)).testBit (c % 64) = false := by
    have := hi.get c
    rw [hg] at this
    cases ht : (ws (c / 64)).testBit (c % 64)
    · rfl
    · rw [ht] at this; cases this
  have hbits : ∀ d, d < c → (ws (d / 64)).testBit (d % 64) = true := by
    intro d hd
    have := hleast d hd
    rw [hi.get d] at this
    split at this
    · assumption
    · cases this
  have hne : ws (c / 64) ≠ 18446744073709551615 := by
    intro e
    rw [e, ones_bit _ (by omega)] at hbit
    cases hbit
  have hlow : low ≤ c / 64 := by
    refine Nat.le_of_not_lt fun hlt => ?_
    exact hne (hi.lows _ hlt)
  have hgap := least_gap (ws (c / 64)) (hr.word _) hne
  have hj : Lib.ctz 64 (18446744073709551615 - ws (c / 64)) = c % 64 := by
    obtain ⟨g1, g2, g3⟩ := hgap
    generalize Lib.ctz 64 (18446744073709551615 - ws (c / 64)) = j at *
    rcases Nat.lt_trichotomy j (c % 64) with hlt | he | hlt
    · have := hbits (c / 64 * 64 + j) (by omega)
      rw [show (c / 64 * 64 + j) / 64 = c / 64 from by omega, show (c / 64 * 64 + j) % 64 = j from by omega] at this
      rw [this] at g2; cases g2
    · exact he
    · have := g3 _ hlt
      rw [this] at hbit; cases hbit
  have hlen : c ≤ hs.length := by
    refine Nat.le_of_not_lt fun hlt => ?_
    have := hi.supp _ (hbits hs.length hlt)
    omega
  have hused : used < S.size := by
    rw [hi.many]
    refine Nat.lt_of_le_of_ne (cnt_le _ _) fun e => ?_
    have := (cnt_full _ _).1 e c hc
    rw [hg] at this; cases this
  refine (alloc_walk w b hv S.size hs ws low used S.steps (c / 64) hr hT hb0 (by omega) (by omega) hlow (by omega) ?_ hne (c % 64) hj (by omega) (by omega)).mono ?_
  · intro i _ hi2
    refine all_ones _ (hr.word i) fun j hj => ?_
    have := hbits (64 * i + j) (by omega)
    rwa [show (64 * i + j) / 64 = i from by omega, show (64 * i + j) % 64 = j from by omega] at this
  rintro e w' ⟨rfl, hv', hrep, hkept, hplace⟩
  have ec : c / 64 * 64 + c % 64 = c := by omega
  have ec2 : ((c / 64 : Nat) : Int) * 64 + ((c % 64 : Nat) : Int) = (c : Int) := by omega
  rw [ec] at hrep
  refine ⟨by rw [← ec2], ⟨⟨_, ⟨hv', _, _, c / 64, used + 1, hrep, rfl, ?_⟩, ?_⟩, hkept⟩⟩
  · have hl : (if c = hs.length then hs ++ [0] else hs.set c 0).length = if c = hs.length then hs.length + 1 else hs.length := by split <;> simp
    have hget : ∀ d, d ≠ c → d < hs.length → (if c = hs.length then hs ++ [0] else hs.set c 0).getD d 0 = hs.getD d 0 := by
      intro d hd hd2
      split
      · rw [List.getD_eq_getElem?_getD, List.getElem?_append_left hd2, List.getD_eq_getElem?_getD]
      · simp [Ne.symm hd]
    have hgetc : (if c = hs.length then hs ++ [0] else hs.set c 0).getD c 0 = 0 := by
      split
      · rename_i e; rw [e]; simp
      · rename_i e
        have hlt : c < hs.length := by omega
        simp [hlt]
    have hor : ∀ d, ((if d / 64 = c / 64 then ws (c / 64) ||| 2 ^ (c % 64) else ws (d / 64))).testBit (d % 64) = ((ws (d / 64)).testBit (d % 64) || decide (d = c)) := by
      intro d
      by_cases e : d / 64 = c / 64
      · rw [if_pos e, Nat.testBit_or, Nat.testBit_two_pow, e]
        congr 1
        apply Bool.eq_iff_iff.2
        simp only [decide_eq_true_eq]
        omega
      · rw [if_neg e]
        have : ¬ d = c := by intro h; subst h; exact e rfl
        simp [this]
    refine ⟨hi.one, hi.max, ?_, ?_, ?_, ?_, ?_, by omega⟩
    · rw [hl]
      show _ ≤ S.size
      split
      · omega
      · exact hi.cap
    · intro d
      show (if d = c then some 0 else S.get d) = _
      rw [hor d]
      by_cases e : d = c
      · subst e; simp only [if_true, decide_true, Bool.or_true, hgetc]
      · rw [if_neg e, hi.get d]
        cases ht : (ws (d / 64)).testBit (d % 64)
        · simp [e]
        · have := hi.supp d ht
          simp only [if_true, Bool.true_or, hget d e this]
    · intro d hd
      rw [hor d] at hd
      rw [hl]
      simp only [Bool.or_eq_true, decide_eq_true_eq] at hd
      rcases hd with hd | hd
      · have := hi.supp d hd
        split <;> omega
      · split <;> omega
    · show used + 1 = cnt (fun d => if d = c then some 0 else S.get d) S.size
      rw [cnt_set S.get c 0 S.size hc hg, hi.many]
    · intro i hi2
      rw [if_neg (by omega)]
      by_cases hlt : i < low
      · exact hi.lows i hlt
      · refine all_ones _ (hr.word i) fun j hj => ?_
        have := hbits (64 * i + j) (by omega)
        rwa [show (64 * i + j) / 64 = i from by omega, show (64 * i + j) % 64 = j from by omega] at this
  · intro x hx
    simp only [List.mem_cons] at hx ⊢
    rcases hx with rfl | hx
    · exact .inl (.inl rfl)
    · rcases hplace x (mem_rowsOf.1 hx) with h | h
      · exact .inl (.inr (mem_rowsOf.2 h))
      · exact .inr h

theorem used_arena {w b fp} {S : Ar} (h : ArenaAt w b fp S) :
    Calls Tryd.prog 19 #[.pointer (some ⟨b, 0, none⟩)] w fun e w' => e = .returned (.int .i64 (cnt S.get S.size)) ∧ w = w' := by
  obtain ⟨hv, hs, ws, low, used, hr, rfl, hi⟩ := h
  rw [← hi.many]
  exact used_walk w b used hr.c4

end Go.Proofs.YtbodobdllchmgaaDoor
namespace Go.Proofs.YtbodobdllchmgaaDoor
open Go Go.RowKit
set_option linter.unusedVariables false

/-- Since w0 nothing of w0 has changed, and an arena that was made since then lies at block b. -/
def OwnF (o : List Nat) (w0 w : World) (b : Nat) (S : Ar) : Prop := ∃ fp, ArenaAt w b fp S ∧ (∀ x ∈ fp, x ∈ o ∨ w0.heap.size ≤ x) ∧ Kept o w0 w
abbrev Own (w0 w : World) (b : Nat) (S : Ar) : Prop := OwnF [] w0 w b S

theorem OwnF.kept {o w0 w b S} (h : OwnF o w0 w b S) : Kept o w0 w := by
  obtain ⟨fp, _, _, k⟩ := h
  exact k

theorem OwnF.op {o : List Nat} {w0 w w' : World} {b : Nat} {S' : Ar} {fp : List Nat} (hn : ∀ x ∈ fp, x ∈ o ∨ w0.heap.size ≤ x) (k : Kept o w0 w) (op : ArOp w w' b fp S') : OwnF o w0 w' b S' := by
  obtain ⟨⟨fp', h', hn'⟩, k'⟩ := op
  refine ⟨fp', h', ?_, ?_⟩
  · intro x hx
    rcases hn' x hx with h1 | h1
    · exact hn x h1
    · right; have := k.size; omega
  · exact k.trans k' fun j hj m => (hn j m).resolve_right (by omega)

theorem OwnF.tab {o w0 w b S} (h : OwnF o w0 w b S) (hT : TabAt w0) (ho : 0 ∉ o) : TabAt w := hT.kept h.kept ho

theorem TabAt.pos {w : World} (h : TabAt w) : 0 < w.heap.size := by
  have := h 0 (by decide)
  simp only [World.cell?] at this
  split at this
  · rename_i c _ _ hh
    exact (Array.getElem?_eq_some_iff.1 hh).1
  · cases this

theorem OwnF.ne0 {o w0 w b S} (h : OwnF o w0 w b S) (hT : TabAt w0) (ho : 0 ∉ o) : b ≠ 0 := by
  obtain ⟨fp, h', hn, _⟩ := h
  have := hn b h'.self
  have := hT.pos
  intro e
  rcases hn b h'.self with h1 | h1
  · exact ho (e ▸ h1)
  · omega

theorem own_new {w0 w : World} (k : Kept [] w0 w) (size : Int) (h0 : 1 ≤ size) (h1 : size ≤ 65536) :
    Calls Tryd.prog 28 #[.int .i64 size] w fun e w' => ∃ b, e = .returned (.tuple #[.pointer (some ⟨b, 0, none⟩), .int .i64 0]) ∧ Own w0 w' b ⟨size.toNat, fun _ => none, 0⟩ := by
  refine (new_arena w size h0 h1).mono ?_
  rintro e w' ⟨rfl, hA, hK⟩
  exact ⟨_, rfl, _, hA, by simp; exact k.size, k.tr hK⟩

theorem own_alloc {o w0 w b} {S : Ar} (h : OwnF o w0 w b S) (hT : TabAt w0) (c : Nat) (hc : c < S.size) (hg : S.get c = none) (hleast : ∀ d, d < c → (S.get d).isSome = true) (ho : 0 ∉ o := by simp) :
    Calls Tryd.prog 69 #[.pointer (some ⟨b, 0, none⟩)] w fun e w' => e = .returned (.tuple #[.int .i64 c, .int .i64 0]) ∧ OwnF o w0 w' b (S.put c 0) := by
  have hT' := h.tab hT ho
  have hb := h.ne0 hT ho
  obtain ⟨fp, hA, hn, k⟩ := h
  refine (alloc_arena hA hT' hb c hc hg hleast).mono ?_
  rintro e w' ⟨rfl, op⟩
  exact ⟨rfl, OwnF.op hn k op⟩

theorem own_alloc_full {o w0 w b} {S : Ar} (h : OwnF o w0 w b S) (hfull : ∀ c, c < S.size → (S.get c).isSome = true) :
    Calls Tryd.prog 69 #[.pointer (some ⟨b, 0, none⟩)] w fun e w' => e = .returned (.tuple #[.int .i64 0, .int .i64 31]) ∧ OwnF o w0 w' b S := by
  obtain ⟨fp, hA, hn, k⟩ := h
  refine (alloc_arena_full hA hfull).mono ?_
  rintro e w' ⟨rfl, op⟩
  exact ⟨rfl, OwnF.op hn k op⟩

theorem own_load {o w0 w b} {S : Ar} (h : OwnF o w0 w b S) (c : Nat) (v : Int) (hg : S.get c = some v) :
    Calls Tryd.prog 51 #[.pointer (some ⟨b, 0, none⟩), .int .i64 c] w fun e w' => e = .returned (.tuple #[.int .u64 v, .int .i64 0]) ∧ OwnF o w0 w' b S.step := by
  obtain ⟨fp, hA, hn, k⟩ := h
  refine (load_arena hA c v hg).mono ?_
  rintro e w' ⟨rfl, op⟩
  exact ⟨rfl, OwnF.op hn k op⟩

theorem own_store {o w0 w b} {S : Ar} (h : OwnF o w0 w b S) (c : Nat) (v x : Int) (hg : S.get c = some v) :
    Calls Tryd.prog 61 #[.pointer (some ⟨b, 0, none⟩), .int .i64 c, .int .u64 x] w fun e w' => e = .returned (.int .i64 0) ∧ OwnF o w0 w' b (S.step.put c x) := by
  obtain ⟨fp, hA, hn, k⟩ := h
  refine (store_arena hA c v x hg).mono ?_
  rintro e w' ⟨rfl, op⟩
  exact ⟨rfl, OwnF.op hn k op⟩

theorem own_cas {o w0 w b} {S : Ar} (h : OwnF o w0 w b S) (c : Nat) (v x : Int) (hg : S.get c = some v) :
    Calls Tryd.prog 55 #[.pointer (some ⟨b, 0, none⟩), .int .i64 c, .int .u64 v, .int .u64 x] w fun e w' => e = .returned (.tuple #[.bool true, .int .i64 0]) ∧ OwnF o w0 w' b (S.step.put c x) := by
  obtain ⟨fp, hA, hn, k⟩ := h
  refine (cas_arena hA c v x hg).mono ?_
  rintro e w' ⟨rfl, op⟩
  exact ⟨rfl, OwnF.op hn k op⟩

theorem own_cas_not {o w0 w b} {S : Ar} (h : OwnF o w0 w b S) (c : Nat) (v old x : Int) (hg : S.get c = some v) (hne : v ≠ old) :
    Calls Tryd.prog 55 #[.pointer (some ⟨b, 0, none⟩), .int .i64 c, .int .u64 old, .int .u64 x] w fun e w' => e = .returned (.tuple #[.bool false, .int .i64 0]) ∧ OwnF o w0 w' b S.step := by
  obtain ⟨fp, hA, hn, k⟩ := h
  refine (cas_arena_not hA c v old x hg hne).mono ?_
  rintro e w' ⟨rfl, op⟩
  exact ⟨rfl, OwnF.op hn k op⟩

theorem own_free {o w0 w b} {S : Ar} (h : OwnF o w0 w b S) (c : Nat) (v : Int) (hg : S.get c = some v) :
    Calls Tryd.prog 84 #[.pointer (some ⟨b, 0, none⟩), .int .i64 c] w fun e w' => e = .returned (.int .i64 0) ∧ OwnF o w0 w' b (S.drop c) := by
  obtain ⟨fp, hA, hn, k⟩ := h
  refine (free_arena hA c v hg).mono ?_
  rintro e w' ⟨rfl, op⟩
  exact ⟨rfl, OwnF.op hn k op⟩

theorem own_free_no {o w0 w b} {S : Ar} (h : OwnF o w0 w b S) (c : Int) (h0 : -9223372036854775808 ≤ c) (h1 : c < 9223372036854775808) (hn : c < 0 ∨ S.get c.toNat = none) :
    Calls Tryd.prog 84 #[.pointer (some ⟨b, 0, none⟩), .int .i64 c] w fun e w' => e = .returned (.int .i64 30) ∧ w = w' := by
  obtain ⟨fp, hA, _, k⟩ := h
  exact free_arena_no hA c h0 h1 hn

theorem own_used {o w0 w b} {S : Ar} (h : OwnF o w0 w b S) :
    Calls Tryd.prog 19 #[.pointer (some ⟨b, 0, none⟩)] w fun e w' => e = .returned (.int .i64 (cnt S.get S.size)) ∧ w = w' := by
  obtain ⟨fp, hA, _, k⟩ := h
  exact used_arena hA

end Go.Proofs.YtbodobdllchmgaaDoor
namespace Go.Proofs.YtbodobdllchmgaaDoor
open Go Go.RowKit
set_option linter.unusedVariables false

/-- An arena as a part. -/
def Part.arena (b : Nat) (S : Ar) : Part := ⟨fun w fp => ArenaAt w b fp S, fun h => h.fp_lt, fun h k hn => h.kept k hn⟩
theorem Has.own {o w0 w b S} (h : Has o w0 w (.arena b S)) : OwnF o w0 w b S := h
theorem Has.ofOwn {o w0 w b S} (h : OwnF o w0 w b S) : Has o w0 w (.arena b S) := h

structure AVer where
  val : ByteArray
  begin_ : Int
  end_ : Int
  next : Int
  gone : Bool

/-- A store: nodes (head, lock), versions, transactions (state, gone), so many of each; the arena's size and steps. -/
structure ASt where
  ab : Nat
  size : Nat
  steps : Int
  nN : Nat
  nV : Nat
  nT : Nat
  N : Nat → Int × Int
  V : Nat → AVer
  T : Nat → Int × Bool

inductive Loc where
  | head (i : Nat) | lock (i : Nat) | begin_ (i : Nat) | end_ (i : Nat) | next (i : Nat) | state (i : Nat)
deriving DecidableEq

def ASt.ver (A : ASt) (i : Nat) : Bool := decide (i < A.nV) && !(A.V i).gone
def ASt.txn (A : ASt) (i : Nat) : Bool := decide (i < A.nT) && !(A.T i).2

/-- What stands in a word of the store, if it is there. -/
def ASt.at_ (A : ASt) : Loc → Option Int
  | .head i => if i < A.nN then some (A.N i).1 else none
  | .lock i => if i < A.nN then some (A.N i).2 else none
  | .begin_ i => if A.ver i then some (A.V i).begin_ else none
  | .end_ i => if A.ver i then some (A.V i).end_ else none
  | .next i => if A.ver i then some (A.V i).next else none
  | .state i => if A.txn i then some (A.T i).1 else none

/-- Another number in a word. -/
def ASt.set (A : ASt) (l : Loc) (v : Int) : ASt :=
  match l with
  | .head i => { A with N := fun j => if j = i then (v, (A.N j).2) else A.N j }
  | .lock i => { A with N := fun j => if j = i then ((A.N j).1, v) else A.N j }
  | .begin_ i => { A with V := fun j => if j = i then { A.V j with begin_ := v } else A.V j }
  | .end_ i => { A with V := fun j => if j = i then { A.V j with end_ := v } else A.V j }
  | .next i => { A with V := fun j => if j = i then { A.V j with next := v } else A.V j }
  | .state i => { A with T := fun j => if j = i then (v, (A.T j).2) else A.T j }

def ASt.step (A : ASt) : ASt := { A with steps := wrap64 (A.steps + 1) }

theorem ASt.gone_set (A : ASt) (l : Loc) (v : Int) (j : Nat) : ((A.set l v).V j).gone = (A.V j).gone := by
  cases l <;> simp only [ASt.set] <;> split <;> rfl
theorem ASt.nV_set (A : ASt) (l : Loc) (v : Int) : (A.set l v).nV = A.nV := by cases l <;> rfl
theorem ASt.nN_set (A : ASt) (l : Loc) (v : Int) : (A.set l v).nN = A.nN := by cases l <;> rfl
theorem ASt.nT_set (A : ASt) (l : Loc) (v : Int) : (A.set l v).nT = A.nT := by cases l <;> rfl
theorem ASt.size_set (A : ASt) (l : Loc) (v : Int) : (A.set l v).size = A.size := by cases l <;> rfl
theorem ASt.ab_set (A : ASt) (l : Loc) (v : Int) : (A.set l v).ab = A.ab := by cases l <;> rfl
theorem ASt.steps_set (A : ASt) (l : Loc) (v : Int) : (A.set l v).steps = A.steps := by cases l <;> rfl
theorem ASt.val_set (A : ASt) (l : Loc) (v : Int) (j : Nat) : ((A.set l v).V j).val = (A.V j).val := by
  cases l <;> simp only [ASt.set] <;> split <;> rfl
theorem ASt.goneT_set (A : ASt) (l : Loc) (v : Int) (j : Nat) : ((A.set l v).T j).2 = (A.T j).2 := by
  cases l <;> simp only [ASt.set] <;> split <;> rfl

theorem ASt.ver_set (A : ASt) (l : Loc) (v : Int) (j : Nat) : (A.set l v).ver j = A.ver j := by
  unfold ASt.ver; rw [A.nV_set, A.gone_set]
theorem ASt.txn_set (A : ASt) (l : Loc) (v : Int) (j : Nat) : (A.set l v).txn j = A.txn j := by
  unfold ASt.txn; rw [A.nT_set, A.goneT_set]

theorem ASt.at_set (A : ASt) (l l' : Loc) (v : Int) : (A.set l v).at_ l' = if l' = l then (A.at_ l').map (fun _ => v) else A.at_ l' := by
  cases l' <;> simp only [ASt.at_, ASt.ver_set, ASt.txn_set, ASt.nN_set] <;> cases l <;> simp only [ASt.set, reduceCtorEq, if_false, Loc.head.injEq, Loc.lock.injEq, Loc.begin_.injEq, Loc.end_.injEq, Loc.next.injEq, Loc.state.injEq]
  all_goals (rename_i i j; by_cases e : i = j <;> (try simp [e]) <;> (try split) <;> (try simp_all))

def cntB (p : Nat → Bool) : Nat → Nat
  | 0 => 0
  | n + 1 => cntB p n + if p n = true then 1 else 0

/-- How many cells are taken. -/
def ASt.used (A : ASt) : Nat := 2 * A.nN + 3 * cntB (fun i => !(A.V i).gone) A.nV + cntB (fun i => !(A.T i).2) A.nT

theorem ASt.used_set (A : ASt) (l : Loc) (v : Int) : (A.set l v).used = A.used := by
  unfold ASt.used
  rw [A.nN_set, A.nV_set, A.nT_set]
  simp only [A.gone_set, A.goneT_set]

/-- Which cell a word has. -/
structure Cells where
  n : Nat → Nat × Nat
  v : Nat → Nat × Nat × Nat
  t : Nat → Nat

def Cells.of (C : Cells) : Loc → Nat
  | .head i => (C.n i).1
  | .lock i => (C.n i).2
  | .begin_ i => (C.v i).1
  | .end_ i => (C.v i).2.1
  | .next i => (C.v i).2.2
  | .state i => C.t i

structure StRep (S : Ar) (C : Cells) (A : ASt) : Prop where
  size : S.size = A.size
  big : A.size ≤ 65536
  steps : S.steps = A.steps
  has : ∀ l v, A.at_ l = some v → S.get (C.of l) = some v
  inj : ∀ l l', (A.at_ l).isSome → (A.at_ l').isSome → C.of l = C.of l' → l = l'
  count : cnt S.get S.size = A.used
  word : ∀ l v, A.at_ l = some v → 0 ≤ v ∧ v < 18446744073709551616
  headLe : ∀ i v, A.at_ (.head i) = some v → v ≤ A.nV
  nextLe : ∀ i v, A.at_ (.next i) = some v → v ≤ i

theorem StRep.step {S : Ar} {C : Cells} {A : ASt} (h : StRep S C A) : StRep S.step C A.step :=
  ⟨h.size, h.big, by show wrap64 (S.steps + 1) = wrap64 (A.steps + 1); rw [h.steps], h.has, h.inj, h.count, h.word, h.headLe, h.nextLe⟩

theorem cnt_some {f g : Nat → Option Int} (n : Nat) (h : ∀ d, (f d).isSome = (g d).isSome) : cnt f n = cnt g n := by
  induction n with
  | zero => rfl
  | succ n ih => unfold cnt; rw [ih, h n]

theorem StRep.put {S : Ar} {C : Cells} {A : ASt} (h : StRep S C A) {l : Loc} {u v : Int} (hl : A.at_ l = some u) (hv : 0 ≤ v ∧ v < 18446744073709551616)
    (hh : ∀ i, l = .head i → v ≤ A.nV) (hx : ∀ i, l = .next i → v ≤ i) : StRep (S.put (C.of l) v) C (A.set l v) := by
  have key : ∀ l' v', (A.set l v).at_ l' = some v' → (l' = l ∧ v' = v) ∨ (l' ≠ l ∧ A.at_ l' = some v') := by
    intro l' v' h'
    rw [A.at_set] at h'
    by_cases e : l' = l
    · rw [if_pos e] at h'
      cases hc : A.at_ l' with
      | none => rw [hc] at h'; cases h'
      | some x => rw [hc] at h'; exact .inl ⟨e, by simpa using h'.symm⟩
    · rw [if_neg e] at h'; exact .inr ⟨e, h'⟩
  have isS : ∀ l', ((A.set l v).at_ l').isSome = (A.at_ l').isSome := fun l' => by
    rw [A.at_set]; split <;> simp
  have hget : S.get (C.of l) = some u := h.has l u hl
  refine ⟨by rw [A.size_set]; exact h.size, by rw [A.size_set]; exact h.big, by rw [A.steps_set]; exact h.steps, fun l' v' h' => ?_, fun a b ha hb e => h.inj a b (by rw [← isS]; exact ha) (by rw [← isS]; exact hb) e, ?_, fun l' v' h' => ?_, fun i v' h' => ?_, fun i v' h' => ?_⟩
  · show (if C.of l' = C.of l then some v else S.get (C.of l')) = some v'
    rcases key l' v' h' with ⟨rfl, rfl⟩ | ⟨hne, h''⟩
    · rw [if_pos rfl]
    · rw [if_neg fun e => hne (h.inj _ _ (by rw [h'']; rfl) (by rw [hl]; rfl) e)]
      exact h.has l' v' h''
  · rw [A.used_set, ← h.count]
    refine cnt_some _ fun d => ?_
    show (if d = C.of l then some v else S.get d).isSome = _
    by_cases e : d = C.of l
    · rw [if_pos e, e, hget]; rfl
    · rw [if_neg e]
  · rcases key l' v' h' with ⟨rfl, rfl⟩ | ⟨_, h''⟩
    · exact hv
    · exact h.word l' v' h''
  · rw [A.nV_set]
    rcases key _ v' h' with ⟨e, rfl⟩ | ⟨_, h''⟩
    · exact hh i e.symm
    · exact h.headLe i v' h''
  · rcases key _ v' h' with ⟨e, rfl⟩ | ⟨_, h''⟩
    · exact hx i e.symm
    · exact h.nextLe i v' h''

def nodeF (C : Cells) (i : Nat) : List Value := [.int .i64 (C.n i).1, .int .i64 (C.n i).2]
def verF (C : Cells) (A : ASt) (i : Nat) : List Value := [.string (A.V i).val, .int .i64 (C.v i).1, .int .i64 (C.v i).2.1, .int .i64 (C.v i).2.2, .bool (A.V i).gone]
def txnF (C : Cells) (A : ASt) (i : Nat) : List Value := [.int .i64 (C.t i), .bool (A.T i).2]

/-- The store's own block. -/
def stF (ab : Nat) (nv vv tv : Value) (i : Nat) : Value := if i = 0 then .pointer (some ⟨ab, 0, none⟩) else if i = 1 then nv else if i = 2 then vv else tv

structure StIx where
  ab : Nat
  nv : Value
  vv : Value
  tv : Value
  S : Ar
  C : Cells

noncomputable def StRows (x : StIx) (A : ASt) : Part :=
  (Part.rows 96 2 x.nv A.nN (nodeF x.C)).sep ((Part.rows 103 5 x.vv A.nV (verF x.C A)).sep (.rows 148 2 x.tv A.nT (txnF x.C A)))

noncomputable def StP (b : Nat) (x : StIx) (A : ASt) : Part :=
  ((Part.blk b 4 94 (stF x.ab x.nv x.vv x.tv)).sep (.when (x.ab = A.ab) (.arena x.ab x.S))).sep (StRows x A)

/-- A store in memory. -/
noncomputable def Part.store (b : Nat) (A : ASt) : Part := .ex fun x : StIx => .when (StRep x.S x.C A) (StP b x A)

theorem Has.stOpen {o : List Nat} {w0 w : World} {b : Nat} {A : ASt} (h : Has o w0 w (.store b A)) : ∃ x : StIx, StRep x.S x.C A ∧ Has o w0 w (StP b x A) := by
  obtain ⟨x, h⟩ := h.exOut
  exact ⟨x, h.whenOut⟩
theorem Has.stShut {o : List Nat} {w0 w : World} {b : Nat} {A : ASt} {x : StIx} (hr : StRep x.S x.C A) (h : Has o w0 w (StP b x A)) : Has o w0 w (.store b A) :=
  Has.exIn x (Has.whenIn hr h)
end Go.Proofs.YtbodobdllchmgaaDoor
namespace Go.Proofs.YtbodobdllchmgaaDoor
open Go Go.RowKit
set_option linter.unusedVariables false

/-- Numbers that a slice owns. -/
noncomputable def Part.ints (v : Value) (l : List Int) : Part := .row 3 1 v l.length (l.map (Value.int .i64))

theorem Has.nilInts (w : World) : Has [] w w (.ints (.slice none 0 0) []) := ⟨[], ⟨World.ownsRow_nil _ _ _ _, by simp [rowsOf, Value.ownBlock]⟩, by simp, Kept.refl _ _⟩

theorem Has.moreInts0 {o : List Nat} {w0 w w5 : World} {v v' : Value} {l' : List Int} (h : Has o w0 w (.ints v [])) (happ : Appended w w5 3 1 v v' l'.length (l'.map (Value.int .i64))) :
    Has o w0 w5 (.ints v' l') := by
  obtain ⟨fp, ⟨hr, rfl⟩, hn, k⟩ := h
  have k1 : Kept (rowsOf v) w w5 := (Kept.refl _ w).grown happ.grown fun b _ e => by simp [mem_rowsOf, e]
  refine Has.step hn k ⟨rowsOf v', ⟨happ.row, rfl⟩, ?_, k1⟩
  intro x hx
  rw [mem_rowsOf] at hx ⊢
  rcases happ.place with e | e
  · rw [e] at hx; exact .inl hx
  · rw [e] at hx
    simp only [Option.some.injEq] at hx
    right; omega

theorem wpList_append_zero {P : Program} {w : World} {ops : Array Oper} {rest : List Oper} {o : Oper} {a : Act} {Q : Exit → Act → World → Prop} (hgd : o.guard = none) (s x : Operand) (t : TypeId)
    (ho : o.op = .call { callee := .builtin .append, args := #[s, x], argTypes := #[t, t] }) (v u r : Value) (hs : a.eval s = v) (hx : a.eval x = u)
    (hr : (Builtin.append_ #[t, t] o.type #[v, u]).run P w = .ok r w) (h : wpList P ops Q rest (a.put o.dst r) w) : wpList P ops Q (o :: rest) a w := by
  refine wpList_plain hgd fun K hK => ?_
  unfold Oper.wp execOp
  simp only [ho, resolve, invoke, builtin, Sem.run_bind, Sem.run_pure, Result.andThen_ok, List.map_toArray, List.map_cons, List.map_nil, hs, hx, hr]
  exact hK _ _ h

theorem ap_row {o : List Nat} {w0 w : World} {v : Value} {l : List Int} (h : Has o w0 w (Part.ints v l)) : w.ownsRow 0 3 1 v l.length (l.map (Value.int .i64)) := by
  obtain ⟨fp, ⟨hr, _⟩, _⟩ := h; exact hr
theorem ap_ints {o : List Nat} {w0 w : World} {v : Value} {l : List Int} (h : Has o w0 w (Part.ints v l)) : ∃ p c, v = .slice p l.length c := by
  rcases row_val (ap_row h) with ⟨e, h0⟩ | ⟨g, c, e, _⟩
  · exact ⟨none, 0, by rw [h0]; exact e⟩
  · exact ⟨_, c, e⟩


theorem info_int : (Tryd.prog.info? 3).map (fun i => (i.zero, i.size, i.bytes)) = some (some (.int .i64 0), 1, 8) := by kernel_rfl

theorem Has.madeNone (w : World) : Has [] w (w.alloc (.cells #[] 3)) (.ints (.slice (some ⟨w.heap.size, 0, none⟩) 0 0) []) := by
  refine ⟨[w.heap.size], ⟨?_, rfl⟩, by simp, (Kept.refl [] w).alloc _⟩
  exact ⟨rfl, .inr ⟨w.heap.size, 0, #[], rfl, Nat.zero_le _, heap_alloc_new w _, Nat.zero_le _, Nat.zero_le _, rfl, rfl⟩⟩

theorem append_none (g : Addr) (q : Option Addr) (c : Nat) (w : World) : (Builtin.append_ #[22, 22] 22 #[.slice (some g) 0 0, .slice q 0 c]).run Tryd.prog w = .ok (.slice (some g) 0 0) w := by
  cases q <;> kernel_rfl

theorem Has.intsAt {o : List Nat} {w0 w : World} {v : Value} {l : List Int} (h : Has o w0 w (.ints v l)) : RowAt w v l.length (fun k => .int .i64 (l.getD k 0)) := by
  refine h.rowAt _ fun i hi => ?_
  rw [List.getElem?_map, List.getD_eq_getElem?_getD, List.getElem?_eq_getElem hi]; rfl
theorem nats_cells {w : World} {b off m : Nat} {z : Nat → Int} (h : ∀ i, i < m → w.cell? ⟨b, off + i, none⟩ = some (.int .i64 (z i))) : ∀ j u, (((List.range m).map z).map (Value.int .i64))[j]? = some u → w.cell? ((⟨b, off, none⟩ : Addr).add j) = some u := by
  intro j u hu
  have hj : j < m := by have := (List.getElem?_eq_some_iff.1 hu).1; simpa using this
  rw [List.getElem?_map, List.getElem?_map, List.getElem?_range hj] at hu
  simp only [Option.map_some, Option.some.injEq] at hu
  subst hu
  have e : (⟨b, off, none⟩ : Addr).add j = ⟨b, off + j, none⟩ := by
    simp only [Addr.add]
    split
    · rename_i h; subst h; rfl
    · rfl
  rw [e]
  exact h j hj
end Go.Proofs.YtbodobdllchmgaaDoor
namespace Go.Proofs.YtbodobdllchmgaaDoor
open Go Go.RowKit
set_option linter.unusedVariables false

variable {o : List Nat} {w0 w : World}

/-- An operation's block. -/
def opF (sv nv : Value) (mark : Int) (fv : Value) (gone : Int) (dn : Bool) (i : Nat) : Value := if i = 0 then sv else if i = 1 then nv else if i = 2 then .int .i64 mark else if i = 3 then fv else if i = 4 then .int .i64 gone else .bool dn

/-- A slice of numbers that came in. -/
def InRow (w : World) (p : Option Addr) (n : Nat) (z : Nat → Int) : Prop := (p = none → n = 0) ∧ (0 < n → ∃ b off, p = some ⟨b, off, none⟩ ∧ b < w.heap.size ∧ ∀ i, i < n → w.cell? ⟨b, off + i, none⟩ = some (.int .i64 (z i)))

theorem nil_slice (n cap : Nat) (w : World) : (binOp BinOp.eql 22 (.slice none n cap) (.slice none 0 0)).run Tryd.prog w = .ok (.bool true) w := by kernel_rfl
theorem not_nil (a : Addr) (n cap : Nat) (w : World) : (binOp BinOp.eql 22 (.slice (some a) n cap) (.slice none 0 0)).run Tryd.prog w = .ok (.bool false) w := by kernel_rfl

set_option maxHeartbeats 2000000 in
set_option maxRecDepth 100000 in
theorem clone_walk (w : World) (p : Option Addr) (n cap : Nat) (z : Nat → Int) (h : InRow w p n z) (hn : n ≤ 140737488351232 / 8) :
    Calls Tryd.prog 31 #[.slice p n cap] w fun e w' => ∃ rv, e = .returned rv ∧ Has [] w w' (.ints rv ((List.range n).map z)) := by
  obtain ⟨h0, hc⟩ := h
  obtain ⟨i0, hi0, hz0, hz1, hz2⟩ := info_parts info_int
  cases p with
  | none =>
    obtain rfl := h0 rfl
    have hnil := nil_slice 0 cap w
    go_enter Tryd.func31, Tryd.ntmps31
    go_wp2_with fail
    go_ret
    exact ⟨_, rfl, Has.nilInts w⟩
  | some a =>
    have HM := Lib.hid (Has.madeNone w)
    have HROW := Lib.hid (ap_row (Has.madeNone w))
    by_cases hpos : 0 < n
    · obtain ⟨b, off, he, hb, hcell⟩ := hc hpos
      obtain rfl : a = ⟨b, off, none⟩ := by simpa using he
      have HC := Lib.hid (nats_cells (w := w.alloc (.cells #[] 3)) (b := b) (off := off) (m := n) (z := z) (fun i hi => ((Kept.refl [] w).alloc _).cell (hcell i hi) (by simp)))
      have hnil := not_nil ⟨b, off, none⟩ n cap w
      clear hc hcell h0 he
      go_enter Tryd.func31, Tryd.ntmps31
      go_wp2_with (at_builtin; refine wpList_append_new rfl (.tmp 5) (.tmp 6) 22 rfl 3 i0 (.int .i64 0) 1 8 Tryd.underlying22 hi0 hz0 hz1 hz2 rfl (by decide) _ _ _ rfl HROW.out ⟨b, off, none⟩ n cap (((List.range n).map z).map (Value.int .i64)) rfl (by simp) HC.out (by intro u hu; simp at hu; obtain ⟨x, _, rfl⟩ := hu; rfl) (by simp only [maxLen, List.length_nil]; omega) (by simp only [List.length_nil]; omega) ?_)
      intro v' w5 happ
      have hl : ((List.range n).map z).length = n := by simp
      have hX := Has.moreInts0 (l' := (List.range n).map z) HM.out (by
        rw [hl]
        simpa using happ)
      have HX := Lib.hid hX
      clear happ hX
      go_wp2_with fail
      go_ret
      exact ⟨_, rfl, HX.out⟩
    · obtain rfl : n = 0 := by omega
      have hnil := not_nil a 0 cap w
      clear hc h0
      go_enter Tryd.func31, Tryd.ntmps31
      go_wp2_with (at_builtin; refine wpList_append_zero rfl (.tmp 5) (.tmp 6) 22 rfl _ _ _ rfl rfl (append_none _ _ _ _) ?_)
      go_wp2_with fail
      go_ret
      exact ⟨_, rfl, HM.out⟩

set_option maxHeartbeats 2000000 in
set_option maxRecDepth 100000 in
theorem begin_sweep (w : World) (sp : Option Addr) (p : Option Addr) (n cap : Nat) (z : Nat → Int) (h : InRow w p n z) (hn : n ≤ 140737488351232 / 8) (mark : Int) :
    Calls Tryd.prog 10 #[.pointer sp, .slice p n cap, .int .i64 mark] w fun e w' => ∃ ob nv, e = .returned (.pointer (some ⟨ob, 0, none⟩)) ∧ Has [] w w' ((Part.ints nv ((List.range n).map z)).sep (.blk ob 6 66 (opF (.pointer sp) nv mark (.func (.func 32) #[.pointer (some ⟨ob, 0, none⟩)] #[]) 0 false))) := by
  have HC := Lib.hid (clone_walk w p n cap z h hn)
  clear h
  go_enter Tryd.func10, Tryd.ntmps10
  go_wp2_with fail
  refine HC.out.mono ?_
  rintro e w2 ⟨nv, rfl, hX⟩
  obtain ⟨np, nc, hnv⟩ := ap_ints hX
  have hfin := hX.beside (Has.madeBlk #[.pointer sp, nv, .int .i64 mark, .func (.func 32) #[.pointer (some ⟨w2.heap.size, 0, none⟩)] #[], .int .i64 0, .bool false] 66 (opF (.pointer sp) nv mark (.func (.func 32) #[.pointer (some ⟨w2.heap.size, 0, none⟩)] #[]) 0 false) 6 rfl (fun i hi => match i, hi with | 0, _ => rfl | 1, _ => rfl | 2, _ => rfl | 3, _ => rfl | 4, _ => rfl | 5, _ => rfl))
  subst hnv
  simp only [List.length_map, List.length_range] at hfin
  have HF := Lib.hid hfin
  clear hX hfin
  go_wp2_with fail
  go_ret
  exact ⟨w2.heap.size, .slice np n nc, rfl, HF.out⟩
end Go.Proofs.YtbodobdllchmgaaDoor
