/- An arena of cells, told plainly: which cells are taken and what they have; what each call does to it.
An arena that a call has made since a first world: what is carried from step to step.
Words told plainly that lie in cells of an arena; what is taken, given back, stored. Plain lemmas: nothing is claimed of a program here.
The walks of the sum over bytes, and of the document's.
A hash table, told plainly, and how it lies in memory. Plain lemmas: nothing is claimed of a program here. -/
import Derived.Test.YtmldighidbfhhaaDoorMHol2
namespace Go.Proofs.YtmldighidbfhhaaDoor
open Go Go.RowKit
set_option linter.unusedVariables false

/-- An arena: its size, what each taken cell has, how many steps there were. -/
structure Ar where
  size : Nat
  get : Nat → Option Int
  steps : Int

/-- How many of the first n are taken. -/
def cnt (get : Nat → Option Int) : Nat → Nat
  | 0 => 0
  | n + 1 => cnt get n + (if (get n).isSome then 1 else 0)

theorem cnt_le (get : Nat → Option Int) (n : Nat) : cnt get n ≤ n := by
  induction n with
  | zero => exact Nat.le_refl _
  | succ n ih => unfold cnt; split <;> omega

theorem cnt_full (get : Nat → Option Int) (n : Nat) : cnt get n = n ↔ ∀ c, c < n → (get c).isSome = true := by
  induction n with
  | zero => simp [cnt]
  | succ n ih =>
    have := cnt_le get n
    unfold cnt
    by_cases h : (get n).isSome = true
    · rw [if_pos h]
      constructor
      · intro e c hc
        by_cases hcn : c = n
        · subst hcn; exact h
        · exact (ih.1 (by omega)) c (by omega)
      · intro e
        have := ih.2 fun c hc => e c (by omega)
        omega
    · rw [if_neg h]
      constructor
      · intro e; omega
      · intro e; exact absurd (e n (by omega)) h

theorem cnt_congr (g g' : Nat → Option Int) (n : Nat) (h : ∀ c, c < n → (g c).isSome = (g' c).isSome) : cnt g n = cnt g' n := by
  induction n with
  | zero => rfl
  | succ n ih =>
    unfold cnt
    rw [ih fun c hc => h c (by omega), h n (by omega)]

theorem cnt_set (g : Nat → Option Int) (c : Nat) (v : Int) (n : Nat) (hc : c < n) (hg : g c = none) : cnt (fun d => if d = c then some v else g d) n = cnt g n + 1 := by
  induction n with
  | zero => omega
  | succ n ih =>
    unfold cnt
    by_cases e : c = n
    · subst e
      rw [cnt_congr _ g c (by intro d hd; rw [if_neg (by omega)])]
      simp [hg]
    · rw [ih (by omega), if_neg (c := n = c) (by omega)]
      omega

theorem cnt_free (g : Nat → Option Int) (c : Nat) (n : Nat) (hc : c < n) (hg : (g c).isSome = true) : cnt (fun d => if d = c then none else g d) n + 1 = cnt g n := by
  induction n with
  | zero => omega
  | succ n ih =>
    unfold cnt
    by_cases e : c = n
    · subst e
      rw [cnt_congr _ g c (by intro d hd; rw [if_neg (by omega)])]
      simp [hg]
    · have := ih (by omega)
      rw [if_neg (c := n = c) (by omega)]
      omega

/-- What an arena's own words must say of it. -/
structure ArInv (S : Ar) (hs : List Int) (ws : Nat → Nat) (low used : Nat) : Prop where
  one : 1 ≤ S.size
  max : S.size ≤ 65536
  cap : hs.length ≤ S.size
  get : ∀ c : Nat, S.get c = if (ws (c / 64)).testBit (c % 64) then some (hs.getD c 0) else none
  supp : ∀ c : Nat, (ws (c / 64)).testBit (c % 64) = true → c < hs.length
  many : used = cnt S.get S.size
  lows : ∀ i, i < low → ws i = 18446744073709551615
  lowm : low ≤ 1024

/-- An arena lies at block b; fp: the blocks that are its own. -/
def ArenaAt (w : World) (b : Nat) (fp : List Nat) (S : Ar) : Prop :=
  ∃ hv hs ws, ∃ low used : Nat, ArRep w b hv S.size hs ws low used S.steps ∧ fp = b :: rowsOf hv ∧ ArInv S hs ws low used

theorem ArenaAt.taken {S : Ar} {hs : List Int} {ws : Nat → Nat} {low used : Nat} (h : ArInv S hs ws low used) (c : Int) : takenAt hs ws c = (decide (0 ≤ c) && (S.get c.toNat).isSome) := by
  unfold takenAt
  rw [h.get c.toNat]
  by_cases h0 : 0 ≤ c
  · cases ht : (ws (c.toNat / 64)).testBit (c.toNat % 64)
    · simp
    · have := h.supp _ ht
      simp [h0]; omega
  · simp [h0]

theorem ArenaAt.getD {S : Ar} {hs : List Int} {ws : Nat → Nat} {low used : Nat} (h : ArInv S hs ws low used) {k : Nat} {v : Int} (hg : S.get k = some v) : hs.getD k 0 = v ∧ k < hs.length := by
  rw [h.get k] at hg
  split at hg
  · rename_i ht
    exact ⟨by simpa using hg, h.supp _ ht⟩
  · cases hg

theorem ArenaAt.kept {own : List Nat} {w w' : World} {b : Nat} {fp : List Nat} {S : Ar} (h : ArenaAt w b fp S) (k : Kept own w w') (hn : ∀ x ∈ fp, x ∉ own) : ArenaAt w' b fp S := by
  obtain ⟨hv, hs, ws, low, used, hr, rfl, hi⟩ := h
  exact ⟨hv, hs, ws, low, used, ⟨k.blk hr.blk (hn b (by simp)), k.row hr.row (fun j hj => hn j (List.mem_cons_of_mem _ (mem_rowsOf.2 hj))), hr.ne, hr.word, hr.few⟩, rfl, hi⟩

theorem ArenaAt.fp_lt {w : World} {b : Nat} {fp : List Nat} {S : Ar} (h : ArenaAt w b fp S) : ∀ x ∈ fp, x < w.heap.size := by
  obtain ⟨hv, hs, ws, low, used, hr, rfl, hi⟩ := h
  intro x hx
  simp only [List.mem_cons] at hx
  rcases hx with rfl | hx
  · exact hr.blk.lt
  · exact (hr.row.lt x (mem_rowsOf.1 hx)).2

theorem ArenaAt.self {w : World} {b : Nat} {fp : List Nat} {S : Ar} (h : ArenaAt w b fp S) : b ∈ fp := by
  obtain ⟨hv, hs, ws, low, used, hr, rfl, hi⟩ := h
  simp

/-- What a call does that works on an arena alone: the arena is S' behind it, its blocks are those that it had, or new ones. -/
structure ArOp (w w' : World) (b : Nat) (fp : List Nat) (S' : Ar) : Prop where
  at_ : ∃ fp', ArenaAt w' b fp' S' ∧ ∀ x ∈ fp', x ∈ fp ∨ w.heap.size ≤ x
  kept : Kept fp w w'

/-- New. -/
theorem new_arena (w : World) (size : Int) (h0 : 1 ≤ size) (h1 : size ≤ 65536) :
    Calls Tryd.prog 24 #[.int .i64 size] w fun e w' => e = .returned (.tuple #[.pointer (some ⟨w.heap.size, 0, none⟩), .int .i64 0]) ∧ ArenaAt w' w.heap.size [w.heap.size] ⟨size.toNat, fun _ => none, 0⟩ ∧ Kept [] w w' := by
  refine (new_walk w size h0 h1).mono ?_
  rintro e w' ⟨rfl, rfl⟩
  refine ⟨rfl, ⟨.slice none 0 0, [], fun _ => 0, 0, 0, ⟨?_, World.ownsRow_nil _ _ _ _, by simp [Value.ownBlock], by simp, by simp⟩, rfl, ?_⟩, (Kept.refl [] w).alloc _⟩
  · refine Blk.made w _ _ _ _ (by rw [Array.size_setIfInBounds]; exact arCells_size) ?_
    intro i hi
    have := arCells_get size i hi
    rw [this]
    show some (arF size _ _ _ _ _ i) = some (arF (size.toNat : Int) _ _ _ _ _ i)
    rw [show ((size.toNat : Nat) : Int) = size from by omega]
    rfl
  · refine ⟨by show 1 ≤ size.toNat; omega, by show size.toNat ≤ 65536; omega, Nat.zero_le _, by simp, by simp, ?_, by omega, by omega⟩
    show 0 = cnt (fun _ => none) size.toNat
    generalize size.toNat = n
    induction n with
    | zero => rfl
    | succ n ih => simpa [cnt] using ih

/-- A touched arena: the same, one step more. -/
def Ar.step (S : Ar) : Ar := { S with steps := wrap64 (S.steps + 1) }
def Ar.put (S : Ar) (c : Nat) (v : Int) : Ar := { S with get := fun d => if d = c then some v else S.get d }
def Ar.drop (S : Ar) (c : Nat) : Ar := { S with get := fun d => if d = c then none else S.get d }

theorem ArInv.step {S hs ws low used} (h : ArInv S hs ws low used) (s : Int) : ArInv { S with steps := s } hs ws low used :=
  ⟨h.one, h.max, h.cap, h.get, h.supp, h.many, h.lows, h.lowm⟩

/-- What is not taken is refused. -/
theorem step_no {w b fp} {S : Ar} (h : ArenaAt w b fp S) (c : Int) (h0 : -9223372036854775808 ≤ c) (h1 : c < 9223372036854775808) (hn : c < 0 ∨ S.get c.toNat = none) :
    Calls Tryd.prog 39 #[.pointer (some ⟨b, 0, none⟩), .int .i64 c] w fun e w' => e = .returned (.tuple #[.pointer none, .int .i64 30]) ∧ w = w' := by
  obtain ⟨hv, hs, ws, low, used, hr, rfl, hi⟩ := h
  have ht := there_calls hr c h0 h1
  have : takenAt hs ws c = false := by
    rw [ArenaAt.taken hi]
    rcases hn with hn | hn
    · simp; omega
    · simp [hn]
  rw [this] at ht
  exact step_walk_no w b c ht

theorem step_yes {w b fp} {S : Ar} (h : ArenaAt w b fp S) (k : Nat) (v : Int) (hg : S.get k = some v) :
    ∃ hv hs ws g cap, ∃ low used : Nat, ArRep w b hv S.size hs ws low used S.steps ∧ fp = b :: rowsOf hv ∧ ArInv S hs ws low used ∧ hv = .slice (some ⟨g, 0, none⟩) hs.length cap ∧ g ≠ b ∧ k < hs.length ∧ w.cell? ⟨g, k, none⟩ = some (.int .u64 v) ∧ w.frozen? ⟨g, k, none⟩ = false ∧
      Calls Tryd.prog 39 #[.pointer (some ⟨b, 0, none⟩), .int .i64 k] w fun e w' => e = .returned (.tuple #[.pointer (some ⟨g, k, none⟩), .int .i64 0]) ∧ w' = w.setCell ⟨b, 1028, none⟩ (.int .i64 (wrap64 (S.steps + 1))) := by
  obtain ⟨hv, hs, ws, low, used, hr, rfl, hi⟩ := h
  have htk : takenAt hs ws (k : Int) = true := by rw [ArenaAt.taken hi]; simp [hg]
  obtain ⟨hd, hlt⟩ := ArenaAt.getD hi hg
  have hm := hi.max
  have hc := hi.cap
  have ht := there_calls hr (k : Int) (by omega) (by omega)
  rw [htk] at ht
  obtain ⟨g, cap, k', hk', h1, rfl, h2, h3, h4, h5, h6, h7⟩ := hr.at_ htk
  obtain rfl : k = k' := by omega
  rw [hd] at h6
  exact ⟨_, hs, ws, g, cap, low, used, hr, rfl, hi, rfl, h2, h1, h6, h7, step_walk w b g hs.length cap k S.steps h1 hr.few h4 h5 hr.c1 hr.c5 (hr.blk.free _) ht⟩

/-- A touch without a change. -/
theorem touched {w b fp} {S : Ar} {hv hs ws} {low used : Nat} (hr : ArRep w b hv S.size hs ws low used S.steps) (hfp : fp = b :: rowsOf hv) (hi : ArInv S hs ws low used) :
    ArOp w (w.setCell ⟨b, 1028, none⟩ (.int .i64 (wrap64 (S.steps + 1)))) b fp S.step := by
  obtain ⟨h1, h2⟩ := hr.stepped (wrap64 (S.steps + 1))
  subst hfp
  exact ⟨⟨_, ⟨hv, hs, ws, low, used, h1, rfl, hi.step _⟩, fun x hx => .inl hx⟩, h2.mono (fun k _ m => by simp at m; simp [m])⟩

/-- A touch that lays a word. -/
theorem laid {w b fp} {S : Ar} {hs ws g n cap} {low used : Nat} (hr : ArRep w b (.slice (some ⟨g, 0, none⟩) n cap) S.size hs ws low used S.steps) (hfp : fp = b :: rowsOf (.slice (some ⟨g, 0, none⟩) n cap)) (hi : ArInv S hs ws low used)
    (k : Nat) (hk : k < hs.length) (hg : (S.get k).isSome = true) (v : Int) :
    ArOp w ((w.setCell ⟨b, 1028, none⟩ (.int .i64 (wrap64 (S.steps + 1)))).setCell ⟨g, k, none⟩ (.int .u64 v)) b fp (S.step.put k v) := by
  obtain ⟨h1, h2⟩ := hr.stepped (wrap64 (S.steps + 1))
  subst hfp
  refine ⟨⟨_, ⟨_, hs.set k v, ws, low, used, h1.putCell k v hk, rfl, ?_⟩, fun x hx => .inl hx⟩, (h2.mono (fun k _ m => by simp at m; simp [m])).set _ (by simp [rowsOf, Value.ownBlock])⟩
  refine ⟨hi.one, hi.max, by rw [List.length_set]; exact hi.cap, ?_, by simpa using hi.supp, ?_, hi.lows, hi.lowm⟩
  · intro c
    show (if c = k then some v else S.get c) = _
    by_cases e : c = k
    · subst e
      rw [hi.get c] at hg
      rw [if_pos rfl]
      split at hg
      · rename_i ht
        rw [if_pos ht]
        simp [hk]
      · cases hg
    · rw [if_neg e, hi.get c]
      simp [Ne.symm e]
  · show used = cnt (fun d => if d = k then some v else S.get d) S.size
    rw [hi.many]
    refine cnt_congr _ _ _ fun c hc => ?_
    by_cases e : c = k
    · subst e; rw [if_pos rfl, hg]; rfl
    · rw [if_neg e]

theorem load_arena {w b fp} {S : Ar} (h : ArenaAt w b fp S) (k : Nat) (v : Int) (hg : S.get k = some v) :
    Calls Tryd.prog 28 #[.pointer (some ⟨b, 0, none⟩), .int .i64 k] w fun e w' => e = .returned (.tuple #[.int .u64 v, .int .i64 0]) ∧ ArOp w w' b fp S.step := by
  obtain ⟨hv, hs, ws, g, cap, low, used, hr, hfp, hi, rfl, hgb, hk, hc, hf, hst⟩ := step_yes h k v hg
  refine (load_walk w b g k _ v hgb hc hf hst).mono ?_
  rintro e w' ⟨rfl, rfl⟩
  exact ⟨rfl, touched hr hfp hi⟩

theorem load_arena_no {w b fp} {S : Ar} (h : ArenaAt w b fp S) (c : Int) (h0 : -9223372036854775808 ≤ c) (h1 : c < 9223372036854775808) (hn : c < 0 ∨ S.get c.toNat = none) :
    Calls Tryd.prog 28 #[.pointer (some ⟨b, 0, none⟩), .int .i64 c] w fun e w' => e = .returned (.tuple #[.int .u64 0, .int .i64 30]) ∧ w = w' :=
  load_walk_no w b c (step_no h c h0 h1 hn)

theorem store_arena {w b fp} {S : Ar} (h : ArenaAt w b fp S) (k : Nat) (v x : Int) (hg : S.get k = some v) :
    Calls Tryd.prog 34 #[.pointer (some ⟨b, 0, none⟩), .int .i64 k, .int .u64 x] w fun e w' => e = .returned (.int .i64 0) ∧ ArOp w w' b fp (S.step.put k x) := by
  obtain ⟨hv, hs, ws, g, cap, low, used, hr, hfp, hi, rfl, hgb, hk, hc, hf, hst⟩ := step_yes h k v hg
  refine (store_walk w b g k _ v x hgb hc hf hst).mono ?_
  rintro e w' ⟨rfl, rfl⟩
  exact ⟨rfl, laid hr hfp hi k hk (by rw [hg]; rfl) x⟩

theorem store_arena_no {w b fp} {S : Ar} (h : ArenaAt w b fp S) (c x : Int) (h0 : -9223372036854775808 ≤ c) (h1 : c < 9223372036854775808) (hn : c < 0 ∨ S.get c.toNat = none) :
    Calls Tryd.prog 34 #[.pointer (some ⟨b, 0, none⟩), .int .i64 c, .int .u64 x] w fun e w' => e = .returned (.int .i64 30) ∧ w = w' :=
  store_walk_no w b c x (step_no h c h0 h1 hn)

theorem cas_arena {w b fp} {S : Ar} (h : ArenaAt w b fp S) (k : Nat) (v x : Int) (hg : S.get k = some v) :
    Calls Tryd.prog 35 #[.pointer (some ⟨b, 0, none⟩), .int .i64 k, .int .u64 v, .int .u64 x] w fun e w' => e = .returned (.tuple #[.bool true, .int .i64 0]) ∧ ArOp w w' b fp (S.step.put k x) := by
  obtain ⟨hv, hs, ws, g, cap, low, used, hr, hfp, hi, rfl, hgb, hk, hc, hf, hst⟩ := step_yes h k v hg
  refine (cas_walk w b g k _ v v x hgb hc hf (by simp) (by simp) hst).mono ?_
  rintro e w' ⟨rfl, rfl⟩
  exact ⟨rfl, laid hr hfp hi k hk (by rw [hg]; rfl) x⟩

theorem cas_arena_not {w b fp} {S : Ar} (h : ArenaAt w b fp S) (k : Nat) (v o x : Int) (hg : S.get k = some v) (hne : v ≠ o) :
    Calls Tryd.prog 35 #[.pointer (some ⟨b, 0, none⟩), .int .i64 k, .int .u64 o, .int .u64 x] w fun e w' => e = .returned (.tuple #[.bool false, .int .i64 0]) ∧ ArOp w w' b fp S.step := by
  obtain ⟨hv, hs, ws, g, cap, low, used, hr, hfp, hi, rfl, hgb, hk, hc, hf, hst⟩ := step_yes h k v hg
  refine (cas_walk_not w b g k _ v o x hgb hc hf (by simpa using hne) (by simpa using hne) hst).mono ?_
  rintro e w' ⟨rfl, rfl⟩
  exact ⟨rfl, touched hr hfp hi⟩

theorem cas_arena_no {w b fp} {S : Ar} (h : ArenaAt w b fp S) (c o x : Int) (h0 : -9223372036854775808 ≤ c) (h1 : c < 9223372036854775808) (hn : c < 0 ∨ S.get c.toNat = none) :
    Calls Tryd.prog 35 #[.pointer (some ⟨b, 0, none⟩), .int .i64 c, .int .u64 o, .int .u64 x] w fun e w' => e = .returned (.tuple #[.bool false, .int .i64 30]) ∧ w = w' :=
  cas_walk_no w b c o x (step_no h c h0 h1 hn)

theorem free_arena_no {w b fp} {S : Ar} (h : ArenaAt w b fp S) (c : Int) (h0 : -9223372036854775808 ≤ c) (h1 : c < 9223372036854775808) (hn : c < 0 ∨ S.get c.toNat = none) :
    Calls Tryd.prog 32 #[.pointer (some ⟨b, 0, none⟩), .int .i64 c] w fun e w' => e = .returned (.int .i64 30) ∧ w = w' := by
  obtain ⟨hv, hs, ws, low, used, hr, rfl, hi⟩ := h
  have ht := there_calls hr c h0 h1
  have : takenAt hs ws c = false := by
    rw [ArenaAt.taken hi]
    rcases hn with hn | hn
    · simp; omega
    · simp [hn]
  rw [this] at ht
  exact free_walk_no w b c ht

theorem free_arena {w b fp} {S : Ar} (h : ArenaAt w b fp S) (k : Nat) (v : Int) (hg : S.get k = some v) :
    Calls Tryd.prog 32 #[.pointer (some ⟨b, 0, none⟩), .int .i64 k] w fun e w' => e = .returned (.int .i64 0) ∧ ArOp w w' b fp (S.drop k) := by
  obtain ⟨hv, hs, ws, low, used, hr, rfl, hi⟩ := h
  have htk : takenAt hs ws (k : Int) = true := by rw [ArenaAt.taken hi]; simp [hg]
  obtain ⟨hd, hlt⟩ := ArenaAt.getD hi hg
  have hm := hi.max
  have hc := hi.cap
  have hlow := hi.lowm
  have ht := there_calls hr (k : Int) (by omega) (by omega)
  rw [htk] at ht
  have hdec := cnt_free S.get k S.size (by omega) (by rw [hg]; rfl)
  have hle := cnt_le S.get S.size
  have hmany := hi.many
  obtain ⟨y, hy1, hy2, hy3⟩ := andnot_pow (ws (k / 64)) (k % 64) (hr.word _) (by omega)
  refine (free_walk w b k (ws (k / 64)) low used (by omega) (by omega) (by omega) (by omega) (by omega) (hr.c2 (by omega)) hr.c3 hr.c4 hr.blk.free ht).mono ?_
  rintro e w' ⟨rfl, rfl⟩
  rw [hy1]
  have h1 := ((hr.putWord (k / 64) y (by omega) hy2).putLow (if (k : Int) / 64 < low then (k : Int) / 64 else low)).putUsed ((used : Int) - 1)
  have e1 : (if (k : Int) / 64 < low then (k : Int) / 64 else (low : Int)) = ((if k / 64 < low then k / 64 else low : Nat) : Int) := by split <;> split <;> omega
  rw [e1] at h1 ⊢
  have e2 : (used : Int) - 1 = ((used - 1 : Nat) : Int) := by omega
  rw [e2] at h1 ⊢
  refine ⟨rfl, ⟨⟨_, ⟨hv, hs, _, _, _, h1.drew, rfl, ?_⟩, fun x hx => .inl hx⟩, ((((Kept.refl _ w).set _ (by simp)).set _ (by simp)).set _ (by simp)).drew⟩⟩
  refine ⟨hi.one, hi.max, hi.cap, ?_, ?_, ?_, ?_, by split <;> omega⟩
  · intro c
    show (if c = k then none else S.get c) = _
    by_cases e : c / 64 = k / 64
    · simp only [e, if_true, hy3]
      by_cases e3 : c = k
      · subst e3; simp
      · rw [if_neg e3, hi.get c, e]
        have : ¬ c % 64 = k % 64 := by omega
        simp [this]
    · have : ¬ c = k := by intro h; subst h; exact e rfl
      rw [if_neg this, if_neg e, hi.get c]
  · intro c hc'
    refine hi.supp c ?_
    by_cases e : c / 64 = k / 64
    · simp only [e, if_true, hy3] at hc'
      rw [e]
      simp at hc'
      exact hc'.1
    · simpa [e] using hc'
  · show used - 1 = cnt (fun d => if d = k then none else S.get d) S.size
    omega
  · intro i hi'
    have : ¬ i = k / 64 := by split at hi' <;> omega
    rw [if_neg this]
    refine hi.lows i ?_
    split at hi' <;> omega

theorem all_ones (x : Nat) (hx : x < 18446744073709551616) (h : ∀ j, j < 64 → x.testBit j = true) : x = 18446744073709551615 := by
  apply Nat.eq_of_testBit_eq
  intro i
  have e : (18446744073709551615 : Nat) = 2 ^ 64 - 1 := by decide
  rw [e, Nat.testBit_two_pow_sub_one]
  by_cases hi : i < 64
  · simp [hi, h i hi]
  · have : x.testBit i = false := Nat.testBit_lt_two_pow (Nat.lt_of_lt_of_le hx (by have : 2 ^ 64 ≤ 2 ^ i := Nat.pow_le_pow_right (by omega) (by omega); omega))
    simp [hi, this]

theorem ones_bit (j : Nat) (hj : j < 64) : (18446744073709551615 : Nat).testBit j = true := by
  have e : (18446744073709551615 : Nat) = 2 ^ 64 - 1 := by decide
  rw [e, Nat.testBit_two_pow_sub_one]
  simpa using hj

theorem alloc_arena_full {w b fp} {S : Ar} (h : ArenaAt w b fp S) (hfull : ∀ c, c < S.size → (S.get c).isSome = true) :
    Calls Tryd.prog 31 #[.pointer (some ⟨b, 0, none⟩)] w fun e w' => e = .returned (.tuple #[.int .i64 0, .int .i64 31]) ∧ ArOp w w' b fp S := by
  obtain ⟨hv, hs, ws, low, used, hr, rfl, hi⟩ := h
  have hu : used = S.size := by rw [hi.many]; exact (cnt_full _ _).2 hfull
  refine (alloc_walk_full w b S.size used hr.c0 hr.c4 (by simp [hu])).mono ?_
  rintro e w' ⟨rfl, n, rfl⟩
  exact ⟨rfl, ⟨⟨_, ⟨hv, hs, ws, low, used, hr.drewN n, rfl, hi⟩, fun x hx => .inl hx⟩, (Kept.refl _ w).drewN n⟩⟩

theorem alloc_arena {w b fp} {S : Ar} (h : ArenaAt w b fp S) (hT : TabAt w) (hb0 : b ≠ 0) (c : Nat) (hc : c < S.size) (hg : S.get c = none) (hleast : ∀ d, d < c → (S.get d).isSome = true) :
    Calls Tryd.prog 31 #[.pointer (some ⟨b, 0, none⟩)] w fun e w' => e = .returned (.tuple #[.int .i64 c, .int .i64 0]) ∧ ArOp w w' b fp (S.put c 0) := by
  obtain ⟨hv, hs, ws, low, used, hr, rfl, hi⟩ := h
  have hmax := hi.max
  have hbit : (ws (c / 64)).testBit (c % 64) = false := by
    have := hi.get c
    rw [hg] at this
    cases ht : (ws (c / 64)).testBit (c % 64)
    · rfl
    · rw [ht] at this; cases this
  have hbits : ∀ d, d < c → (ws (d / 64)).testBit (d % 64) = true := by
    intro d hd
    have := hleast d hd
    rw [hi.get d] at this
    split at this
    · assumption
    · cases this
  have hne : ws (c / 64) ≠ 18446744073709551615 := by
    intro e
    rw [e, ones_bit _ (by omega)] at hbit
    cases hbit
  have hlow : low ≤ c / 64 := by
    refine Nat.le_of_not_lt fun hlt => ?_
    exact hne (hi.lows _ hlt)
  have hgap := least_gap (ws (c / 64)) (hr.word _) hne
  have hj : Lib.ctz 64 (18446744073709551615 - ws (c / 64)) = c % 64 := by
    obtain ⟨g1, g2, g3⟩ := hgap
    generalize Lib.ctz 64 (18446744073709551615 - ws (c / 64)) = j at *
    rcases Nat.lt_trichotomy j (c % 64) with hlt | he | hlt
    · have := hbits (c / 64 * 64 + j) (by omega)
      rw [show (c / 64 * 64 + j) / 64 = c / 64 from by omega, show (c / 64 * 64 + j) % 64 = j from by omega] at this
      rw [this] at g2; cases g2
    · exact he
    · have := g3 _ hlt
      rw [this] at hbit; cases hbit
  have hlen : c ≤ hs.length := by
    refine Nat.le_of_not_lt fun hlt => ?_
    have := hi.supp _ (hbits hs.length hlt)
    omega
  have hused : used < S.size := by
    rw [hi.many]
    refine Nat.lt_of_le_of_ne (cnt_le _ _) fun e => ?_
    have := (cnt_full _ _).1 e c hc
    rw [hg] at this; cases this
  refine (alloc_walk w b hv S.size hs ws low used S.steps (c / 64) hr hT hb0 (by omega) (by omega) hlow (by omega) ?_ hne (c % 64) hj (by omega) (by omega)).mono ?_
  · intro i _ hi2
    refine all_ones _ (hr.word i) fun j hj => ?_
    have := hbits (64 * i + j) (by omega)
    rwa [show (64 * i + j) / 64 = i from by omega, show (64 * i + j) % 64 = j from by omega] at this
  rintro e w' ⟨rfl, hv', hrep, hkept, hplace⟩
  have ec : c / 64 * 64 + c % 64 = c := by omega
  have ec2 : ((c / 64 : Nat) : Int) * 64 + ((c % 64 : Nat) : Int) = (c : Int) := by omega
  rw [ec] at hrep
  refine ⟨by rw [← ec2], ⟨⟨_, ⟨hv', _, _, c / 64, used + 1, hrep, rfl, ?_⟩, ?_⟩, hkept⟩⟩
  · have hl : (if c = hs.length then hs ++ [0] else hs.set c 0).length = if c = hs.length then hs.length + 1 else hs.length := by split <;> simp
    have hget : ∀ d, d ≠ c → d < hs.length → (if c = hs.length then hs ++ [0] else hs.set c 0).getD d 0 = hs.getD d 0 := by
      intro d hd hd2
      split
      · rw [List.getD_eq_getElem?_getD, List.getElem?_append_left hd2, List.getD_eq_getElem?_getD]
      · simp [Ne.symm hd]
    have hgetc : (if c = hs.length then hs ++ [0] else hs.set c 0).getD c 0 = 0 := by
      split
      · rename_i e; rw [e]; simp
      · rename_i e
        have hlt : c < hs.length := by omega
        simp [hlt]
    have hor : ∀ d, ((if d / 64 = c / 64 then ws (c / 64) ||| 2 ^ (c % 64) else ws (d / 64))).testBit (d % 64) = ((ws (d / 64)).testBit (d % 64) || decide (d = c)) := by
      intro d
      by_cases e : d / 64 = c / 64
      · rw [if_pos e, Nat.testBit_or, Nat.testBit_two_pow, e]
        congr 1
        apply Bool.eq_iff_iff.2
        simp only [decide_eq_true_eq]
        omega
      · rw [if_neg e]
        have : ¬ d = c := by intro h; subst h; exact e rfl
        simp [this]
    refine ⟨hi.one, hi.max, ?_, ?_, ?_, ?_, ?_, by omega⟩
    · rw [hl]
      show _ ≤ S.size
      split
      · omega
      · exact hi.cap
    · intro d
      show (if d = c then some 0 else S.get d) = _
      rw [hor d]
      by_cases e : d = c
      · subst e; simp only [if_true, decide_true, Bool.or_true, hgetc]
      · rw [if_neg e, hi.get d]
        cases ht : (ws (d / 64)).testBit (d % 64)
        · simp [e]
        · have := hi.supp d ht
          simp only [if_true, Bool.true_or, hget d e this]
    · intro d hd
      rw [hor d] at hd
      rw [hl]
      simp only [Bool.or_eq_true, decide_eq_true_eq] at hd
      rcases hd with hd | hd
      · have := hi.supp d hd
        split <;> omega
      · split <;> omega
    · show used + 1 = cnt (fun d => if d = c then some 0 else S.get d) S.size
      rw [cnt_set S.get c 0 S.size hc hg, hi.many]
    · intro i hi2
      rw [if_neg (by omega)]
      by_cases hlt : i < low
      · exact hi.lows i hlt
      · refine all_ones _ (hr.word i) fun j hj => ?_
        have := hbits (64 * i + j) (by omega)
        rwa [show (64 * i + j) / 64 = i from by omega, show (64 * i + j) % 64 = j from by omega] at this
  · intro x hx
    simp only [List.mem_cons] at hx ⊢
    rcases hx with rfl | hx
    · exact .inl (.inl rfl)
    · rcases hplace x (mem_rowsOf.1 hx) with h | h
      · exact .inl (.inr (mem_rowsOf.2 h))
      · exact .inr h

theorem used_arena {w b fp} {S : Ar} (h : ArenaAt w b fp S) :
    Calls Tryd.prog 22 #[.pointer (some ⟨b, 0, none⟩)] w fun e w' => e = .returned (.int .i64 (cnt S.get S.size)) ∧ w = w' := by
  obtain ⟨hv, hs, ws, low, used, hr, rfl, hi⟩ := h
  rw [← hi.many]
  exact used_walk w b used hr.c4

end Go.Proofs.YtmldighidbfhhaaDoor
namespace Go.Proofs.YtmldighidbfhhaaDoor
open Go Go.RowKit
set_option linter.unusedVariables false

/-- Since w0 nothing of w0 has changed, and an arena that was made since then lies at block b. -/
def OwnF (o : List Nat) (w0 w : World) (b : Nat) (S : Ar) : Prop := ∃ fp, ArenaAt w b fp S ∧ (∀ x ∈ fp, x ∈ o ∨ w0.heap.size ≤ x) ∧ Kept o w0 w
abbrev Own (w0 w : World) (b : Nat) (S : Ar) : Prop := OwnF [] w0 w b S

theorem OwnF.kept {o w0 w b S} (h : OwnF o w0 w b S) : Kept o w0 w := by
  obtain ⟨fp, _, _, k⟩ := h
  exact k

theorem OwnF.op {o : List Nat} {w0 w w' : World} {b : Nat} {S' : Ar} {fp : List Nat} (hn : ∀ x ∈ fp, x ∈ o ∨ w0.heap.size ≤ x) (k : Kept o w0 w) (op : ArOp w w' b fp S') : OwnF o w0 w' b S' := by
  obtain ⟨⟨fp', h', hn'⟩, k'⟩ := op
  refine ⟨fp', h', ?_, ?_⟩
  · intro x hx
    rcases hn' x hx with h1 | h1
    · exact hn x h1
    · right; have := k.size; omega
  · exact k.trans k' fun j hj m => (hn j m).resolve_right (by omega)

theorem OwnF.tab {o w0 w b S} (h : OwnF o w0 w b S) (hT : TabAt w0) (ho : 0 ∉ o) : TabAt w := hT.kept h.kept ho

theorem TabAt.pos {w : World} (h : TabAt w) : 0 < w.heap.size := by
  have := h 0 (by decide)
  simp only [World.cell?] at this
  split at this
  · rename_i c _ _ hh
    exact (Array.getElem?_eq_some_iff.1 hh).1
  · cases this

theorem OwnF.ne0 {o w0 w b S} (h : OwnF o w0 w b S) (hT : TabAt w0) (ho : 0 ∉ o) : b ≠ 0 := by
  obtain ⟨fp, h', hn, _⟩ := h
  have := hn b h'.self
  have := hT.pos
  intro e
  rcases hn b h'.self with h1 | h1
  · exact ho (e ▸ h1)
  · omega

theorem own_new {w0 w : World} (k : Kept [] w0 w) (size : Int) (h0 : 1 ≤ size) (h1 : size ≤ 65536) :
    Calls Tryd.prog 24 #[.int .i64 size] w fun e w' => ∃ b, e = .returned (.tuple #[.pointer (some ⟨b, 0, none⟩), .int .i64 0]) ∧ Own w0 w' b ⟨size.toNat, fun _ => none, 0⟩ := by
  refine (new_arena w size h0 h1).mono ?_
  rintro e w' ⟨rfl, hA, hK⟩
  exact ⟨_, rfl, _, hA, by simp; exact k.size, k.tr hK⟩

theorem own_alloc {o w0 w b} {S : Ar} (h : OwnF o w0 w b S) (hT : TabAt w0) (c : Nat) (hc : c < S.size) (hg : S.get c = none) (hleast : ∀ d, d < c → (S.get d).isSome = true) (ho : 0 ∉ o := by simp) :
    Calls Tryd.prog 31 #[.pointer (some ⟨b, 0, none⟩)] w fun e w' => e = .returned (.tuple #[.int .i64 c, .int .i64 0]) ∧ OwnF o w0 w' b (S.put c 0) := by
  have hT' := h.tab hT ho
  have hb := h.ne0 hT ho
  obtain ⟨fp, hA, hn, k⟩ := h
  refine (alloc_arena hA hT' hb c hc hg hleast).mono ?_
  rintro e w' ⟨rfl, op⟩
  exact ⟨rfl, OwnF.op hn k op⟩

theorem own_alloc_full {o w0 w b} {S : Ar} (h : OwnF o w0 w b S) (hfull : ∀ c, c < S.size → (S.get c).isSome = true) :
    Calls Tryd.prog 31 #[.pointer (some ⟨b, 0, none⟩)] w fun e w' => e = .returned (.tuple #[.int .i64 0, .int .i64 31]) ∧ OwnF o w0 w' b S := by
  obtain ⟨fp, hA, hn, k⟩ := h
  refine (alloc_arena_full hA hfull).mono ?_
  rintro e w' ⟨rfl, op⟩
  exact ⟨rfl, OwnF.op hn k op⟩

theorem own_load {o w0 w b} {S : Ar} (h : OwnF o w0 w b S) (c : Nat) (v : Int) (hg : S.get c = some v) :
    Calls Tryd.prog 28 #[.pointer (some ⟨b, 0, none⟩), .int .i64 c] w fun e w' => e = .returned (.tuple #[.int .u64 v, .int .i64 0]) ∧ OwnF o w0 w' b S.step := by
  obtain ⟨fp, hA, hn, k⟩ := h
  refine (load_arena hA c v hg).mono ?_
  rintro e w' ⟨rfl, op⟩
  exact ⟨rfl, OwnF.op hn k op⟩

theorem own_store {o w0 w b} {S : Ar} (h : OwnF o w0 w b S) (c : Nat) (v x : Int) (hg : S.get c = some v) :
    Calls Tryd.prog 34 #[.pointer (some ⟨b, 0, none⟩), .int .i64 c, .int .u64 x] w fun e w' => e = .returned (.int .i64 0) ∧ OwnF o w0 w' b (S.step.put c x) := by
  obtain ⟨fp, hA, hn, k⟩ := h
  refine (store_arena hA c v x hg).mono ?_
  rintro e w' ⟨rfl, op⟩
  exact ⟨rfl, OwnF.op hn k op⟩

theorem own_cas {o w0 w b} {S : Ar} (h : OwnF o w0 w b S) (c : Nat) (v x : Int) (hg : S.get c = some v) :
    Calls Tryd.prog 35 #[.pointer (some ⟨b, 0, none⟩), .int .i64 c, .int .u64 v, .int .u64 x] w fun e w' => e = .returned (.tuple #[.bool true, .int .i64 0]) ∧ OwnF o w0 w' b (S.step.put c x) := by
  obtain ⟨fp, hA, hn, k⟩ := h
  refine (cas_arena hA c v x hg).mono ?_
  rintro e w' ⟨rfl, op⟩
  exact ⟨rfl, OwnF.op hn k op⟩

theorem own_cas_not {o w0 w b} {S : Ar} (h : OwnF o w0 w b S) (c : Nat) (v old x : Int) (hg : S.get c = some v) (hne : v ≠ old) :
    Calls Tryd.prog 35 #[.pointer (some ⟨b, 0, none⟩), .int .i64 c, .int .u64 old, .int .u64 x] w fun e w' => e = .returned (.tuple #[.bool false, .int .i64 0]) ∧ OwnF o w0 w' b S.step := by
  obtain ⟨fp, hA, hn, k⟩ := h
  refine (cas_arena_not hA c v old x hg hne).mono ?_
  rintro e w' ⟨rfl, op⟩
  exact ⟨rfl, OwnF.op hn k op⟩

theorem own_free {o w0 w b} {S : Ar} (h : OwnF o w0 w b S) (c : Nat) (v : Int) (hg : S.get c = some v) :
    Calls Tryd.prog 32 #[.pointer (some ⟨b, 0, none⟩), .int .i64 c] w fun e w' => e = .returned (.int .i64 0) ∧ OwnF o w0 w' b (S.drop c) := by
  obtain ⟨fp, hA, hn, k⟩ := h
  refine (free_arena hA c v hg).mono ?_
  rintro e w' ⟨rfl, op⟩
  exact ⟨rfl, OwnF.op hn k op⟩

theorem own_free_no {o w0 w b} {S : Ar} (h : OwnF o w0 w b S) (c : Int) (h0 : -9223372036854775808 ≤ c) (h1 : c < 9223372036854775808) (hn : c < 0 ∨ S.get c.toNat = none) :
    Calls Tryd.prog 32 #[.pointer (some ⟨b, 0, none⟩), .int .i64 c] w fun e w' => e = .returned (.int .i64 30) ∧ w = w' := by
  obtain ⟨fp, hA, _, k⟩ := h
  exact free_arena_no hA c h0 h1 hn

theorem own_used {o w0 w b} {S : Ar} (h : OwnF o w0 w b S) :
    Calls Tryd.prog 22 #[.pointer (some ⟨b, 0, none⟩)] w fun e w' => e = .returned (.int .i64 (cnt S.get S.size)) ∧ w = w' := by
  obtain ⟨fp, hA, _, k⟩ := h
  exact used_arena hA

end Go.Proofs.YtmldighidbfhhaaDoor
namespace Go.Proofs.YtmldighidbfhhaaDoor
open Go Go.RowKit
set_option linter.unusedVariables false

/-- An arena as a part. -/
def Part.arena (b : Nat) (S : Ar) : Part := ⟨fun w fp => ArenaAt w b fp S, fun h => h.fp_lt, fun h k hn => h.kept k hn⟩
theorem Has.own {o w0 w b S} (h : Has o w0 w (.arena b S)) : OwnF o w0 w b S := h
theorem Has.ofOwn {o w0 w b S} (h : OwnF o w0 w b S) : Has o w0 w (.arena b S) := h

theorem tab_nil : 0 ∉ ([] : List Nat) := by simp
theorem tab_out {w0 : World} {o : List Nat} (hT : TabAt w0) (ho : 0 ∉ o) {o' : List Nat} (h : ∀ y ∈ o', y ∈ o ∨ w0.heap.size ≤ y) : 0 ∉ o' := fun m => by
  rcases h _ m with h | h
  · exact ho h
  · have := hT.pos; omega

/-- An arena of the call's own. -/
theorem new_ar (w w1 : World) (k : Kept [] w w1) (n : Nat) (h0 : 1 ≤ n) (h1 : n ≤ 65536) :
    Calls Tryd.prog 24 #[.int .i64 n] w1 fun e w' => ∃ ab, e = .returned (.tuple #[.pointer (some ⟨ab, 0, none⟩), .int .i64 0]) ∧ Has [] w w' (.arena ab ⟨n, fun _ => none, 0⟩) := by
  refine (own_new k n (by omega) (by omega)).mono ?_
  rintro e w' ⟨ab, rfl, h⟩
  exact ⟨ab, rfl, Has.ofOwn h⟩

def cntB (p : Nat → Bool) : Nat → Nat
  | 0 => 0
  | n + 1 => cntB p n + if p n = true then 1 else 0

theorem cntB_le (p : Nat → Bool) (n : Nat) : cntB p n ≤ n := by
  induction n with
  | zero => exact Nat.le_refl _
  | succ n ih => unfold cntB; split <;> omega
theorem cntB_congr {p q : Nat → Bool} (n : Nat) (h : ∀ i, i < n → p i = q i) : cntB p n = cntB q n := by
  induction n with
  | zero => rfl
  | succ n ih => unfold cntB; rw [ih fun i hi => h i (by omega), h n (by omega)]
theorem cntB_one {p q : Nat → Bool} {n k : Nat} (hk : k < n) (hp : p k = true) (hq : q k = false) (h : ∀ i, i < n → i ≠ k → p i = q i) : cntB p n = cntB q n + 1 := by
  induction n with
  | zero => omega
  | succ n ih =>
    unfold cntB
    by_cases e : k = n
    · subst e
      rw [cntB_congr (q := q) k fun i hi => h i (by omega) (by omega), hp, hq]; simp
    · rw [ih (by omega) fun i hi hne => h i (by omega) hne, h n (by omega) fun e' => e e'.symm]; omega

/-- The least cell that is free. -/
theorem least_free (get : Nat → Option Int) (n : Nat) (h : cnt get n < n) : ∃ c, c < n ∧ get c = none ∧ ∀ d, d < c → (get d).isSome = true := by
  induction n with
  | zero => omega
  | succ n ih =>
    unfold cnt at h
    by_cases hc : cnt get n < n
    · obtain ⟨c, h1, h2, h3⟩ := ih hc
      exact ⟨c, by omega, h2, h3⟩
    · have hall : ∀ d, d < n → (get d).isSome = true := (cnt_full get n).1 (by have := cnt_le get n; omega)
      cases e : get n with
      | none => exact ⟨n, by omega, e, hall⟩
      | some v => rw [e] at h; simp at h; omega

/-- Words that lie in cells: which cell each has, and what stands there. -/
structure CRep {L : Type} (S : Ar) (of : L → Nat) (at_ : L → Option Int) (used : Nat) : Prop where
  has : ∀ l v, at_ l = some v → S.get (of l) = some v
  inj : ∀ l l', (at_ l).isSome → (at_ l').isSome → of l = of l' → l = l'
  lt : ∀ l v, at_ l = some v → of l < S.size
  count : cnt S.get S.size = used
  word : ∀ l v, at_ l = some v → 0 ≤ v ∧ v < 18446744073709551616

section
variable {L : Type} {S : Ar} {of : L → Nat} {at_ : L → Option Int} {used : Nat}

theorem CRep.step (h : CRep S of at_ used) : CRep S.step of at_ used := ⟨h.has, h.inj, h.lt, h.count, h.word⟩

theorem CRep.congr {of' : L → Nat} {at' : L → Option Int} (h : CRep S of at_ used) (e : ∀ l, at' l = at_ l) (e2 : ∀ l, of' l = of l) : CRep S of' at' used := by
  have h1 : at' = at_ := funext e
  have h2 : of' = of := funext e2
  rw [h1, h2]; exact h

theorem CRep.put [DecidableEq L] (h : CRep S of at_ used) {l : L} {u v : Int} (hl : at_ l = some u) (hv : 0 ≤ v ∧ v < 18446744073709551616) :
    CRep (S.put (of l) v) of (fun l' => if l' = l then some v else at_ l') used := by
  have isS : ∀ l', ((if l' = l then some v else at_ l') : Option Int).isSome = (at_ l').isSome := fun l' => by
    by_cases e : l' = l
    · rw [if_pos e, e, hl]; rfl
    · rw [if_neg e]
  refine ⟨fun l' v' h' => ?_, fun a b ha hb e => h.inj a b (by rw [← isS]; exact ha) (by rw [← isS]; exact hb) e, fun l' v' h' => ?_, ?_, fun l' v' h' => ?_⟩
  · show (if of l' = of l then some v else S.get (of l')) = some v'
    by_cases e : l' = l
    · rw [if_pos e] at h'; rw [e, if_pos rfl]; exact h'
    · rw [if_neg e] at h'
      rw [if_neg fun e2 => e (h.inj _ _ (by rw [h']; rfl) (by rw [hl]; rfl) e2)]
      exact h.has l' v' h'
  · by_cases e : l' = l
    · rw [e]; exact h.lt l u hl
    · simp only [if_neg e] at h'; exact h.lt l' v' h'
  · rw [← h.count]
    refine cnt_congr _ _ _ fun d _ => ?_
    show (if d = of l then some v else S.get d).isSome = _
    by_cases e : d = of l
    · rw [if_pos e, e, h.has l u hl]; rfl
    · rw [if_neg e]
  · by_cases e : l' = l
    · simp only [if_pos e, Option.some.injEq] at h'; subst h'; exact hv
    · simp only [if_neg e] at h'; exact h.word l' v' h'

theorem CRep.take [DecidableEq L] (h : CRep S of at_ used) {l : L} {c : Nat} {v : Int} (hc : c < S.size) (hg : S.get c = none) (hl : at_ l = none) (hv : 0 ≤ v ∧ v < 18446744073709551616) :
    CRep (S.put c v) (fun l' => if l' = l then c else of l') (fun l' => if l' = l then some v else at_ l') (used + 1) := by
  have hne : ∀ l' v', at_ l' = some v' → of l' ≠ c := fun l' v' h' e => by
    have := h.has l' v' h'
    rw [e, hg] at this; cases this
  refine ⟨fun l' v' h' => ?_, fun a b ha hb e => ?_, fun l' v' h' => ?_, ?_, fun l' v' h' => ?_⟩
  · show (if (if l' = l then c else of l') = c then some v else S.get (if l' = l then c else of l')) = some v'
    by_cases e : l' = l
    · simp only [if_pos e] at h' ⊢; exact h'
    · simp only [if_neg e] at h' ⊢
      rw [if_neg (hne l' v' h')]; exact h.has l' v' h'
  · by_cases ea : a = l
    · by_cases eb : b = l
      · rw [ea, eb]
      · simp only [if_pos ea, if_neg eb] at e hb
        obtain ⟨u, hu⟩ := Option.isSome_iff_exists.1 hb
        exact absurd e.symm (hne b u hu)
    · by_cases eb : b = l
      · simp only [if_pos eb, if_neg ea] at e ha
        obtain ⟨u, hu⟩ := Option.isSome_iff_exists.1 ha
        exact absurd e (hne a u hu)
      · simp only [if_neg ea, if_neg eb] at e ha hb
        exact h.inj a b ha hb e
  · by_cases e : l' = l
    · simp only [if_pos e]; exact hc
    · simp only [if_neg e] at h' ⊢; exact h.lt l' v' h'
  · show cnt (fun d => if d = c then some v else S.get d) S.size = _
    rw [cnt_set _ _ _ _ hc hg, h.count]
  · by_cases e : l' = l
    · simp only [if_pos e, Option.some.injEq] at h'; subst h'; exact hv
    · simp only [if_neg e] at h'; exact h.word l' v' h'

theorem CRep.drop [DecidableEq L] (h : CRep S of at_ used) {l : L} {u : Int} (hl : at_ l = some u) : CRep (S.drop (of l)) of (fun l' => if l' = l then none else at_ l') (used - 1) := by
  have key : ∀ l' v', (if l' = l then none else at_ l') = some v' → l' ≠ l ∧ at_ l' = some v' := fun l' v' h' => by
    by_cases e : l' = l
    · rw [if_pos e] at h'; cases h'
    · rw [if_neg e] at h'; exact ⟨e, h'⟩
  refine ⟨fun l' v' h' => ?_, fun a b ha hb e => ?_, fun l' v' h' => h.lt l' v' (key l' v' h').2, ?_, fun l' v' h' => h.word l' v' (key l' v' h').2⟩
  · obtain ⟨e, h2⟩ := key l' v' h'
    show (if of l' = of l then none else S.get (of l')) = some v'
    rw [if_neg fun e2 => e (h.inj _ _ (by rw [h2]; rfl) (by rw [hl]; rfl) e2)]
    exact h.has l' v' h2
  · obtain ⟨u1, h1⟩ := Option.isSome_iff_exists.1 ha
    obtain ⟨u2, h2⟩ := Option.isSome_iff_exists.1 hb
    exact h.inj a b (by rw [(key _ _ h1).2]; rfl) (by rw [(key _ _ h2).2]; rfl) e
  · show cnt (fun d => if d = of l then none else S.get d) S.size = _
    have := cnt_free S.get (of l) S.size (h.lt l u hl) (by rw [h.has l u hl]; rfl)
    rw [h.count] at this
    omega
end
end Go.Proofs.YtmldighidbfhhaaDoor
namespace Go.Proofs.YtmldighidbfhhaaDoor
open Go Go.RowKit
set_option linter.unusedVariables false

/-- Bytes that a slice has. -/
def BytesAt (w : World) (q : Option Addr) (n : Nat) (z : Nat → Int) : Prop :=
  0 < n → ∃ b off, q = some ⟨b, off, none⟩ ∧ ∀ i, i < n → w.cell? ⟨b, off + i, none⟩ = some (.int .u8 (z i)) ∧ 0 ≤ z i ∧ z i < 256

set_option maxHeartbeats 4000000 in
set_option maxRecDepth 100000 in
theorem crc_walk (w : World) (ab aoff cap n c : Nat) (q : Option Addr) (z : Nat → Int) (hn : n ≤ 1000000) (hcell : w.cell? ⟨ab, aoff, none⟩ = some (.slice q n c)) (hz : BytesAt w q n z) :
    Calls Tryd.prog 26 #[.slice (some ⟨ab, aoff, none⟩) 1 cap] w fun e w' => e = .returned (.int .u32 (crcF ((List.range n).map z))) ∧ w' = w := by
  have HZ := Lib.hid hz
  have HF := Lib.hid (show crcF ((List.range n).map z) = Go.bits .xor .u32 4294967295 (crcL 4294967295 ((List.range n).map z)) from rfl)
  have HN0 := Lib.hid (show crcL 4294967295 ((List.range 0).map z) = 4294967295 from rfl)
  have HS := Lib.hid (fun i : Nat => show crcL 4294967295 ((List.range (i + 1)).map z) = crcN 8 (Go.bits .xor .u32 (crcL 4294967295 ((List.range i).map z)) (z i)) by
    rw [List.range_succ, List.map_append, List.map_singleton, crcL_snoc]; rfl)
  have HR := Lib.hid (fun i : Nat => crcL_range ((List.range i).map z) (c := 4294967295) ⟨by omega, by omega⟩)
  generalize hL : (fun i : Nat => crcL 4294967295 ((List.range i).map z)) = L at *
  have e0 : ∀ i, crcL 4294967295 ((List.range i).map z) = L i := fun i => by rw [← hL]
  rw [HF.out]
  simp only [e0] at *
  clear HF hL e0 hz
  go_enter Tryd.func26, Tryd.ntmps26
  go_wp2_with fail
  go_loopg [3, 10] 1 (fun k cv iv wr => (k = 1 ∧ iv = .int .i64 0 ∧ cv = .int .u32 4294967295 ∨ k = 0 ∧ iv = .int .i64 1 ∧ cv = .int .u32 (L n)) ∧ wr = w)
  case atStart => exact ⟨.inl ⟨rfl, rfl, rfl⟩, rfl⟩
  case round =>
    obtain ⟨⟨hk, rfl, rfl⟩ | ⟨hk, rfl, rfl⟩, rfl⟩ := hrel
    · have HK := Lib.hid hk
      clear hk
      go_wp2_with fail
      go_loopg [3, 16] n (fun k2 cv iv wr2 => ∃ i : Nat, i ≤ n ∧ k2 = n - i ∧ iv = .int .i64 i ∧ cv = .int .u32 (L i) ∧ wr2 = wr)
      case atStart => exact ⟨0, Nat.zero_le _, rfl, rfl, by rw [HN0.out], rfl⟩
      case round =>
        obtain ⟨i, hi, hk, rfl, rfl, rfl⟩ := hrel
        have HKK := Lib.hid hk
        clear hk
        by_cases hlt : i < n
        · have d1 : decide ((i : Int) < (n : Int)) = true := by simp; omega
          have d1' : decide (i < n) = true := by simp; omega
          obtain ⟨b, off, rfl, hc⟩ := HZ.out (by omega)
          obtain ⟨c0, hz0, hz1⟩ := hc i hlt
          clear hc
          have hw8 : IntKind.u32.wrap (z i) = z i := wrap32 hz0 (by omega)
          go_wp2_with fail
          go_loopg [3, 24] 8 (fun k3 cv iv wr3 => ∃ j : Nat, j ≤ 8 ∧ k3 = 8 - j ∧ iv = .int .i64 j ∧ cv = .int .u32 (crcN j (Go.bits .xor .u32 (L i) (z i))) ∧ wr3 = wr)
          case atStart => exact ⟨0, by omega, rfl, rfl, rfl, rfl⟩
          case round =>
            obtain ⟨j, hj, hk, rfl, rfl, rfl⟩ := hrel
            have HKJ := Lib.hid hk
            clear hk
            have HNS := Lib.hid (crcN_succ j (Go.bits .xor .u32 (L i) (z i)))
            have HRJ := Lib.hid (crcN_range j (bits32 .xor (L i) (z i)))
            by_cases hlt8 : j < 8
            · have d2 : decide ((j : Int) < 8) = true := by simp; omega
              have d2' : decide (j < 8) = true := by simp; omega
              obtain ⟨hc0, hc1⟩ := HRJ.out
              generalize crcN j (Go.bits .xor .u32 (L i) (z i)) = cj at *
              go_wp2_with fail
              go_roundg (8 - (j + 1))
              case measure => rw [HKJ.out]; omega
              case rel => exact ⟨j + 1, by omega, rfl, by go_num, by rw [HNS.out, crcB_form], rfl⟩
            · have d2 : decide ((j : Int) < 8) = false := by simp; omega
              have d2' : decide (j < 8) = false := by simp; omega
              obtain rfl : j = 8 := by omega
              have HSI := Lib.hid (HS.out i)
              go_wp2_with fail
              go_roundg (n - (i + 1))
              case measure => rw [HKK.out]; omega
              case rel => exact ⟨i + 1, by omega, rfl, by go_num, by rw [HSI.out], rfl⟩
        · have d1 : decide ((i : Int) < (n : Int)) = false := by simp; omega
          have d1' : decide (i < n) = false := by simp; omega
          obtain rfl : i = n := by omega
          go_wp2_with fail
          go_roundg 0
          case measure => rw [HK.out]; omega
          case rel => exact ⟨.inr ⟨rfl, rfl, rfl⟩, rfl⟩
    · go_wp2_with fail
      go_ret
      exact ⟨rfl, rfl⟩

set_option maxHeartbeats 4000000 in
set_option maxRecDepth 100000 in
theorem rcrc_walk (w : World) (n c : Nat) (q : Option Addr) (z : Nat → Int) (hn : n ≤ 1000000) (hz : BytesAt w q n z) :
    Calls Tryd.prog 11 #[.slice q n c] w fun e w' => e = .returned (.int .u32 (crcF ((List.range n).map z))) ∧ w' = w := by
  have HZ := Lib.hid hz
  have HF := Lib.hid (show crcF ((List.range n).map z) = Go.bits .xor .u32 (crcL 4294967295 ((List.range n).map z)) 4294967295 from xorC _ _)
  have HN0 := Lib.hid (show crcL 4294967295 ((List.range 0).map z) = 4294967295 from rfl)
  have HS := Lib.hid (fun i : Nat => show crcL 4294967295 ((List.range (i + 1)).map z) = crcN 8 (Go.bits .xor .u32 (crcL 4294967295 ((List.range i).map z)) (z i)) by
    rw [List.range_succ, List.map_append, List.map_singleton, crcL_snoc]; rfl)
  generalize hL : (fun i : Nat => crcL 4294967295 ((List.range i).map z)) = L at *
  have e0 : ∀ i, crcL 4294967295 ((List.range i).map z) = L i := fun i => by rw [← hL]
  rw [HF.out]
  simp only [e0] at *
  clear HF hL e0 hz
  go_enter Tryd.func11, Tryd.ntmps11
  go_wp2_with fail
  go_loopg [3, 4] n (fun k2 cv iv wr2 => ∃ i : Nat, i ≤ n ∧ k2 = n - i ∧ iv = .int .i64 i ∧ cv = .int .u32 (L i) ∧ wr2 = w)
  case atStart => exact ⟨0, Nat.zero_le _, rfl, rfl, by rw [HN0.out], rfl⟩
  case round =>
    obtain ⟨i, hi, hk, rfl, rfl, rfl⟩ := hrel
    have HKK := Lib.hid hk
    clear hk
    by_cases hlt : i < n
    · have d1 : decide ((i : Int) < (n : Int)) = true := by simp; omega
      have d1' : decide (i < n) = true := by simp; omega
      obtain ⟨b, off, rfl, hc⟩ := HZ.out (by omega)
      obtain ⟨c0, hz0, hz1⟩ := hc i hlt
      clear hc
      have hw8 : IntKind.u32.wrap (z i) = z i := wrap32 hz0 (by omega)
      go_wp2_with fail
      go_loopg [3, 5] 8 (fun k3 cv iv wr3 => ∃ j : Nat, j ≤ 8 ∧ k3 = 8 - j ∧ iv = .int .i64 j ∧ cv = .int .u32 (crcN j (Go.bits .xor .u32 (L i) (z i))) ∧ wr3 = wr)
      case atStart => exact ⟨0, by omega, rfl, rfl, rfl, rfl⟩
      case round =>
        obtain ⟨j, hj, hk, rfl, rfl, rfl⟩ := hrel
        have HKJ := Lib.hid hk
        clear hk
        have HNS := Lib.hid (crcN_succ j (Go.bits .xor .u32 (L i) (z i)))
        have HRJ := Lib.hid (crcN_range j (bits32 .xor (L i) (z i)))
        by_cases hlt8 : j < 8
        · have d2 : decide ((j : Int) < 8) = true := by simp; omega
          have d2' : decide (j < 8) = true := by simp; omega
          obtain ⟨hc0, hc1⟩ := HRJ.out
          generalize crcN j (Go.bits .xor .u32 (L i) (z i)) = cj at *
          have HB := Lib.hid (crcB_eq hc0 hc1)
          by_cases hodd : cj % 2 = 1
          · have d3 : decide (cj % 2 = 1) = true := by simpa using hodd
            have d3' : (cj % 2 == 1) = true := by simpa using hodd
            go_wp2_with fail
            go_roundg (8 - (j + 1))
            case measure => rw [HKJ.out]; omega
            case rel => exact ⟨j + 1, by omega, rfl, by go_num, by rw [HNS.out, HB.out, if_pos hodd], rfl⟩
          · have d3 : decide (cj % 2 = 1) = false := by simpa using hodd
            have d3' : (cj % 2 == 1) = false := by simpa using hodd
            go_wp2_with fail
            go_roundg (8 - (j + 1))
            case measure => rw [HKJ.out]; omega
            case rel => exact ⟨j + 1, by omega, rfl, by go_num, by rw [HNS.out, HB.out, if_neg hodd], rfl⟩
        · have d2 : decide ((j : Int) < 8) = false := by simp; omega
          have d2' : decide (j < 8) = false := by simp; omega
          obtain rfl : j = 8 := by omega
          have HSI := Lib.hid (HS.out i)
          go_wp2_with fail
          go_roundg (n - (i + 1))
          case measure => rw [HKK.out]; omega
          case rel => exact ⟨i + 1, by omega, rfl, by go_num, by rw [HSI.out], rfl⟩
    · have d1 : decide ((i : Int) < (n : Int)) = false := by simp; omega
      have d1' : decide (i < n) = false := by simp; omega
      obtain rfl : i = n := by omega
      go_wp2_with fail
      go_ret
      exact ⟨rfl, rfl⟩
end Go.Proofs.YtmldighidbfhhaaDoor
namespace Go.Proofs.YtmldighidbfhhaaDoor
open Go Go.RowKit
set_option linter.unusedVariables false

structure AEnt where
  key : ByteArray
  ref : Int
  nxt : Int
  gone : Bool

/-- A table: the arena's block, size and steps; the buckets' words; the entries. -/
structure AHt where
  ab : Nat
  size : Nat
  steps : Int
  nB : Nat
  H : Nat → Int
  nE : Nat
  E : Nat → AEnt

inductive HLoc where
  | head (i : Nat) | next (i : Nat)
deriving DecidableEq

def AHt.at_ (T : AHt) : HLoc → Option Int
  | .head i => if i < T.nB then some (T.H i) else none
  | .next i => if i < T.nE ∧ (T.E i).gone = false then some (T.E i).nxt else none

def AHt.set (T : AHt) (l : HLoc) (v : Int) : AHt :=
  match l with
  | .head i => { T with H := fun j => if j = i then v else T.H j }
  | .next i => { T with E := fun j => if j = i then { T.E j with nxt := v } else T.E j }

def AHt.step (T : AHt) : AHt := { T with steps := wrap64 (T.steps + 1) }
def AHt.used (T : AHt) : Nat := T.nB + cntB (fun i => !(T.E i).gone) T.nE

theorem AHt.gone_set (T : AHt) (l : HLoc) (v : Int) (j : Nat) : ((T.set l v).E j).gone = (T.E j).gone := by
  cases l <;> simp only [AHt.set] <;> split <;> rfl
theorem AHt.key_set (T : AHt) (l : HLoc) (v : Int) (j : Nat) : ((T.set l v).E j).key = (T.E j).key := by
  cases l <;> simp only [AHt.set] <;> split <;> rfl
theorem AHt.ref_set (T : AHt) (l : HLoc) (v : Int) (j : Nat) : ((T.set l v).E j).ref = (T.E j).ref := by
  cases l <;> simp only [AHt.set] <;> split <;> rfl
theorem AHt.nB_set (T : AHt) (l : HLoc) (v : Int) : (T.set l v).nB = T.nB := by cases l <;> rfl
theorem AHt.nE_set (T : AHt) (l : HLoc) (v : Int) : (T.set l v).nE = T.nE := by cases l <;> rfl
theorem AHt.used_set (T : AHt) (l : HLoc) (v : Int) : (T.set l v).used = T.used := by
  unfold AHt.used
  rw [T.nB_set, T.nE_set]
  simp only [T.gone_set]

theorem AHt.at_set (T : AHt) (l l' : HLoc) (v : Int) (h : (T.at_ l).isSome) : (T.set l v).at_ l' = if l' = l then some v else T.at_ l' := by
  cases l with
  | head i =>
    cases l' with
    | head j =>
      by_cases e : j = i
      · subst e
        have : j < T.nB := by simp only [AHt.at_] at h; split at h <;> simp_all
        simp [AHt.at_, AHt.set, this]
      · simp [AHt.at_, AHt.set, e]
    | next j => rw [if_neg (by simp)]; rfl
  | next i =>
    cases l' with
    | head j => rw [if_neg (by simp)]; rfl
    | next j =>
      by_cases e : j = i
      · subst e
        have : j < T.nE ∧ (T.E j).gone = false := by simp only [AHt.at_] at h; split at h <;> simp_all
        simp [AHt.at_, AHt.set, this]
      · simp [AHt.at_, AHt.set, e]

/-- One more entry. -/
def AHt.add (T : AHt) (key : ByteArray) (ref : Int) : AHt := { T with nE := T.nE + 1, E := fun j => if j = T.nE then ⟨key, ref, 0, false⟩ else T.E j }
/-- An entry's cell is given back. -/
def AHt.free (T : AHt) (i : Nat) : AHt := { T with E := fun j => if j = i then { T.E j with gone := true } else T.E j }
/-- One more bucket. -/
def AHt.bucket (T : AHt) : AHt := { T with nB := T.nB + 1, H := fun j => if j = T.nB then 0 else T.H j }

theorem AHt.at_add (T : AHt) (key : ByteArray) (ref : Int) (l : HLoc) : (T.add key ref).at_ l = if l = .next T.nE then some 0 else T.at_ l := by
  cases l with
  | head j => rw [if_neg (by simp)]; rfl
  | next j =>
    by_cases e : j = T.nE
    · subst e; simp [AHt.at_, AHt.add]
    · have e2 : (j < T.nE + 1) ↔ (j < T.nE) := by omega
      simp [AHt.at_, AHt.add, e, e2]
theorem AHt.at_free (T : AHt) (i : Nat) (l : HLoc) : (T.free i).at_ l = if l = .next i then none else T.at_ l := by
  cases l with
  | head j => rw [if_neg (by simp)]; rfl
  | next j => by_cases e : j = i <;> simp [AHt.at_, AHt.free, e]
theorem AHt.at_bucket (T : AHt) (l : HLoc) : T.bucket.at_ l = if l = .head T.nB then some 0 else T.at_ l := by
  cases l with
  | next j => rw [if_neg (by simp)]; rfl
  | head j =>
    by_cases e : j = T.nB
    · subst e; simp [AHt.at_, AHt.bucket]
    · have e2 : (j < T.nB + 1) ↔ (j < T.nB) := by omega
      simp [AHt.at_, AHt.bucket, e, e2]
theorem AHt.used_add (T : AHt) (key : ByteArray) (ref : Int) : (T.add key ref).used = T.used + 1 := by
  show T.nB + cntB _ (T.nE + 1) = _
  unfold cntB
  rw [cntB_congr (q := fun i => !(T.E i).gone) T.nE fun i hi => by simp only [AHt.add, if_neg (show ¬ i = T.nE by omega)]]
  simp only [AHt.add, AHt.used]
  simp; omega
theorem AHt.used_free (T : AHt) (i : Nat) (hi : i < T.nE) (hg : (T.E i).gone = false) : T.used = (T.free i).used + 1 := by
  show T.nB + _ = T.nB + _ + 1
  rw [cntB_one (p := fun j => !(T.E j).gone) (q := fun j => !((T.free i).E j).gone) hi (by simp [hg]) (by simp [AHt.free]) fun j _ hne => by simp [AHt.free, hne]]
  rfl
theorem AHt.used_bucket (T : AHt) : T.bucket.used = T.used + 1 := by
  show T.nB + 1 + _ = T.nB + _ + 1
  have : cntB (fun i => !(T.bucket.E i).gone) T.bucket.nE = cntB (fun i => !(T.E i).gone) T.nE := rfl
  omega

/-- Which cell a word has. -/
structure HCells where
  h : Nat → Nat
  e : Nat → Nat
def HCells.of (C : HCells) : HLoc → Nat
  | .head i => C.h i
  | .next i => C.e i

structure HtRep (S : Ar) (C : HCells) (T : AHt) : Prop where
  size : S.size = T.size
  big : T.size ≤ 65536
  steps : S.steps = T.steps
  rep : CRep S C.of T.at_ T.used
  small : ∀ l v, T.at_ l = some v → v ≤ T.nE

theorem HtRep.step {S : Ar} {C : HCells} {T : AHt} (h : HtRep S C T) : HtRep S.step C T.step :=
  ⟨h.size, h.big, by show wrap64 (S.steps + 1) = wrap64 (T.steps + 1); rw [h.steps], h.rep.step, h.small⟩

theorem HtRep.put {S : Ar} {C : HCells} {T : AHt} (h : HtRep S C T) {l : HLoc} {u v : Int} (hl : T.at_ l = some u) (h0 : 0 ≤ v) (h1 : v ≤ T.nE) (h9 : (T.nE : Int) < 18446744073709551616) : HtRep (S.put (C.of l) v) C (T.set l v) := by
  have e : ∀ l', (T.set l v).at_ l' = if l' = l then some v else T.at_ l' := fun l' => T.at_set l l' v (by rw [hl]; rfl)
  refine ⟨?_, ?_, ?_, ?_, fun l' v' h' => ?_⟩
  · rw [show (T.set l v).size = T.size by cases l <;> rfl]; exact h.size
  · rw [show (T.set l v).size = T.size by cases l <;> rfl]; exact h.big
  · rw [show (T.set l v).steps = T.steps by cases l <;> rfl]; exact h.steps
  · rw [T.used_set]
    exact (h.rep.put hl ⟨h0, by omega⟩).congr e fun _ => rfl
  · rw [T.nE_set]
    rw [e] at h'
    by_cases e2 : l' = l
    · rw [if_pos e2] at h'; cases h'; exact h1
    · rw [if_neg e2] at h'; exact h.small l' v' h'

theorem HtRep.add {S : Ar} {C : HCells} {T : AHt} (h : HtRep S C T) {c : Nat} (hc : c < S.size) (hg : S.get c = none) (key : ByteArray) (ref : Int) :
    HtRep (S.put c 0) { C with e := fun j => if j = T.nE then c else C.e j } (T.add key ref) := by
  refine ⟨h.size, h.big, h.steps, ?_, fun l' v' h' => ?_⟩
  · rw [T.used_add]
    refine (h.rep.take (l := .next T.nE) (v := 0) hc hg ?_ ⟨by omega, by omega⟩).congr (T.at_add key ref) fun l => ?_
    · simp [AHt.at_]
    · cases l with
      | head j => simp [HCells.of]
      | next j => by_cases e : j = T.nE <;> simp [HCells.of, e]
  · rw [T.at_add] at h'
    by_cases e2 : l' = .next T.nE
    · rw [if_pos e2] at h'; cases h'; exact Int.natCast_nonneg _
    · rw [if_neg e2] at h'
      have := h.small l' v' h'
      show v' ≤ ((T.nE + 1 : Nat) : Int)
      omega

theorem HtRep.free {S : Ar} {C : HCells} {T : AHt} (h : HtRep S C T) {i : Nat} {u : Int} (hl : T.at_ (.next i) = some u) : HtRep (S.drop (C.e i)) C (T.free i) := by
  have hi : i < T.nE ∧ (T.E i).gone = false := by
    simp only [AHt.at_] at hl; split at hl
    · assumption
    · cases hl
  refine ⟨h.size, h.big, h.steps, ?_, fun l' v' h' => ?_⟩
  · have := h.rep.drop hl
    rw [T.used_free i hi.1 hi.2, Nat.add_sub_cancel] at this
    exact this.congr (T.at_free i) fun _ => rfl
  · rw [T.at_free] at h'
    by_cases e2 : l' = .next i
    · rw [if_pos e2] at h'; cases h'
    · rw [if_neg e2] at h'; exact h.small l' v' h'

theorem HtRep.bucket {S : Ar} {C : HCells} {T : AHt} (h : HtRep S C T) {c : Nat} (hc : c < S.size) (hg : S.get c = none) :
    HtRep (S.put c 0) { C with h := fun j => if j = T.nB then c else C.h j } T.bucket := by
  refine ⟨h.size, h.big, h.steps, ?_, fun l' v' h' => ?_⟩
  · rw [T.used_bucket]
    refine (h.rep.take (l := .head T.nB) (v := 0) hc hg ?_ ⟨by omega, by omega⟩).congr T.at_bucket fun l => ?_
    · simp [AHt.at_]
    · cases l with
      | next j => simp [HCells.of]
      | head j => by_cases e : j = T.nB <;> simp [HCells.of, e]
  · rw [T.at_bucket] at h'
    by_cases e2 : l' = .head T.nB
    · rw [if_pos e2] at h'; cases h'; exact Int.natCast_nonneg _
    · rw [if_neg e2] at h'; exact h.small l' v' h'

def entF (C : HCells) (T : AHt) (i : Nat) : List Value := [.string (T.E i).key, .int .i64 (T.E i).ref, .int .i64 (C.e i)]
def headF (C : HCells) (i : Nat) : List Value := [.int .i64 (C.h i)]

/-- The table's own block. -/
def htF (ab : Nat) (hv ev : Value) (i : Nat) : Value := if i = 0 then .pointer (some ⟨ab, 0, none⟩) else if i = 1 then hv else ev

structure HtIx where
  hv : Value
  ev : Value
  S : Ar
  C : HCells

noncomputable def HtRows (x : HtIx) (T : AHt) : Part := (Part.rows 3 1 x.hv T.nB (headF x.C)).sep (.rows 73 3 x.ev T.nE (entF x.C T))
noncomputable def HtP (b : Nat) (x : HtIx) (T : AHt) : Part := ((Part.blk b 3 65 (htF T.ab x.hv x.ev)).sep (.arena T.ab x.S)).sep (HtRows x T)

/-- A table in memory. -/
noncomputable def Part.table (b : Nat) (T : AHt) : Part := .ex fun x : HtIx => .when (HtRep x.S x.C T) (HtP b x T)

theorem Has.htOpen {o : List Nat} {w0 w : World} {b : Nat} {T : AHt} (h : Has o w0 w (.table b T)) : ∃ x : HtIx, HtRep x.S x.C T ∧ Has o w0 w (HtP b x T) := by
  obtain ⟨x, h⟩ := h.exOut
  exact ⟨x, h.whenOut⟩
theorem Has.htShut {o : List Nat} {w0 w : World} {b : Nat} {T : AHt} {x : HtIx} (hr : HtRep x.S x.C T) (h : Has o w0 w (HtP b x T)) : Has o w0 w (.table b T) :=
  Has.exIn x (Has.whenIn hr h)
end Go.Proofs.YtmldighidbfhhaaDoor
